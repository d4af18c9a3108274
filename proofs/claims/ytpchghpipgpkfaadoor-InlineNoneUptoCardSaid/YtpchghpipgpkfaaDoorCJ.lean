/-
  PARTS OF A PROOF, joined: an abstract machine for quiet code, its evaluation, and what the seat's functions answer on it. Conditions: none.
-/
import Derived.Test.YtpchghpipgpkfaaDoorG
set_option linter.unusedVariables false
set_option linter.unusedSimpArgs false
set_option maxRecDepth 100000
set_option maxHeartbeats 4000000
namespace Go.Abs
abbrev IM (β:Type):=List (Int × β)
section
variable {β:Type} (f:β→AVal)
def qk0 (m:IM β):List (AVal × AVal):=m.map fun p=>(.int .i64 p.1,f p.2)
theorem qzN (hf:∀ b,qaB (f b)=true) (ρ:Nat→Option Nat) (m:IM β):qeH ρ (.map (qk0 f m))=.map (qk0 f m):=by
 have h1:∀ v:AVal,qaB v=true→ren ρ v=v:=fun v hv=>by unfold ren;rw[if_pos hv]
 unfold qeH qk0
 dsimp only
 rw[List.map_map]
 congr 1
 refine List.map_congr_left fun p _=>?_
 simp only[Function.comp,h1 _ (hf p.2),h1 (.int .i64 p.1) rfl]
theorem qzC (hf:∀ b,qaB (f b)=true) (m:IM β):qpp (.map (qk0 f m))=[]:=by
 have h1:∀ v:AVal,qaB v=true→qa0 v=[]:=fun v hv=>by unfold qa0;rw[if_pos hv]
 unfold qpp qk0
 dsimp only
 induction m with
 | nil=>rfl
 | cons p m ih =>
   rw[List.map_cons,List.flatMap_cons,h1 _ (hf p.2),h1 (.int .i64 p.1) rfl]
   exact ih
def qbu (v:Int):IM β→Option β
 | []=>none
 | p::m=>if v=p.1 then some p.2 else qbu v m
def qoT (v:Int) (b:β) (m:IM β):IM β:=m.map fun p=>if v=p.1 then (v,b) else p
def qmI (v:Int) (b:β):IM β→IM β
 | []=>[(v,b)]
 | p::m=>if v<p.1 then (v,b)::p::m else p::qmI v b m
def qjf (v:Int) (b:β) (m:IM β):IM β:=if (qbu v m).isSome=true then qoT v b m else qmI v b m
theorem qh2 {v:Int} {b:β}:∀ {m:IM β} (i:Nat),qbu v m=some b→∃ j,qa8 (.int .i64 v) (qk0 f m) i=some (some (j,f b))
 | [],i,h=>by cases h
 | p :: m,i,h => by
   unfold qbu at h
   by_cases hv:v=p.1
   ·rw[if_pos hv] at h
    injection h with h
    subst h
    exact⟨i,by simp[qk0,qa8,qcE,hv]⟩
   ·rw[if_neg hv] at h
    obtain⟨j,hj⟩:=qh2 (i+1) h
    have hb:(v==p.1)=false:=by simpa using hv
    exact⟨j,by rw[← hj];simp[qk0,qa8,qcE,hb]⟩
theorem qh1 {v:Int}:∀ {m:IM β} (i:Nat),qbu v m=none→qa8 (.int .i64 v) (qk0 f m) i=some none
 | [],i,h=>rfl
 | p :: m,i,h => by
   unfold qbu at h
   by_cases hv:v=p.1
   ·rw[if_pos hv] at h
    cases h
   ·rw[if_neg hv] at h
    have hb:(v==p.1)=false:=by simpa using hv
    rw[← qh1 (i+1) h]
    simp[qk0,qa8,qcE,hb]
theorem qqG (v:Int) (b:β):∀ m:IM β,qzb (.int .i64 v) (f b) (qk0 f m)=qk0 f (qmI v b m)
 | []=>rfl
 | p :: m => by
   unfold qmI qk0
   rw[List.map_cons,qzb]
   simp only[qzF,decide_eq_true_eq]
   by_cases h:v<p.1
   ·rw[if_pos h,if_pos h]
    rfl
   ·rw[if_neg h,if_neg h,List.map_cons]
    exact congrArg _ (qqG v b m)
theorem qvl (v:Int) (b:β) (m:IM β):qyX (.int .i64 v) (f b) (qk0 f m)=qk0 f (qoT v b m):=by
 unfold qyX qk0 qoT
 rw[List.map_map,List.map_map]
 refine List.map_congr_left fun p _=>?_
 simp only[Function.comp,qcE,if_true,Option.some.injEq,beq_iff_eq]
 by_cases h:v=p.1
 ·rw[if_pos h,if_pos h]
 ·rw[if_neg h,if_neg h]
theorem qoh (h:Heap) (r:Nat) (zero:AVal) (ok:Bool) (v:Int) (m:IM β) (hr:h[r]? = some (.map (qk0 f m))) :
  qhS h .int zero ok (.map (some r)) (.int .i64 v)=some (match qbu v m with | some b=>(if ok=true then .tuple [f b,.bool true] else f b) | none=>(if ok=true then .tuple [zero,.bool false] else zero)):=by
 unfold qhS qoj
 rw[if_pos (show qcF .int (.int .i64 v)=true from rfl)]
 dsimp only
 rw[hr]
 dsimp only
 cases hq:qbu v m with
 | some b =>
   obtain⟨j,hj⟩:=qh2 f 0 hq
   rw[hj]
 | none=>rw[qh1 f 0 hq]
theorem qAa (h:Heap) (r:Nat) (v:Int) (b:β) (m:IM β) (hw:wipe (f b)=f b) (hr:h[r]? = some (.map (qk0 f m))) :
  qdI h .int (.map (some r)) (.int .i64 v) (f b)=some (h.set r (.map (qk0 f (qjf v b m)))):=by
 unfold qdI qjf
 dsimp only
 rw[hr]
 dsimp only
 rw[if_pos (show qcF .int (.int .i64 v)=true from rfl),hw]
 cases hq:qbu v m with
 | some c =>
   obtain⟨j,hj⟩:=qh2 f 0 hq
   rw[hj]
   simp only[Option.isSome_some,if_true,qvl]
 | none =>
   rw[qh1 f 0 hq]
   simp only[Option.isSome_none,Bool.false_eq_true,if_false,qqG]
theorem qnM (v w:Int) (b:β):∀ m:IM β,qbu w m=none→qbu v (qmI w b m)=if v=w then some b else qbu v m
 | [],_=>by simp[qmI,qbu]
 | p :: m,h => by
   unfold qbu at h
   have hw:¬ w=p.1:=by
    intro e
    rw[if_pos e] at h
    cases h
   rw[if_neg hw] at h
   have ih:=qnM v w b m h
   unfold qmI
   by_cases hlt:w<p.1
   ·rw[if_pos hlt]
    simp only[qbu]
   ·rw[if_neg hlt]
    simp only[qbu]
    rw[ih]
    by_cases h1:v=p.1
    ·have:¬ v=w:=by omega
     rw[if_pos h1,if_neg this,if_pos h1]
    ·rw[if_neg h1,if_neg h1]
theorem qjV (v w:Int) (b:β):∀ m:IM β,(qbu w m).isSome=true→qbu v (qoT w b m)=if v=w then some b else qbu v m
 | [],h=>by cases h
 | p :: m,h => by
   unfold qoT
   rw[List.map_cons]
   by_cases hw:w=p.1
   ·rw[if_pos hw]
    simp only[qbu]
    by_cases hv:v=w
    ·rw[if_pos hv,if_pos hv]
    ·rw[if_neg hv,if_neg hv,if_neg (by omega)]
     by_cases hs:(qbu w m).isSome=true
     ·have:=qjV v w b m hs
      unfold qoT at this
      rw[this,if_neg hv]
     ·have:m.map (fun p=>if w=p.1 then (w,b) else p)=m:=by
       have hn:∀ q∈m,¬ w=q.1:=by
        clear h
        induction m with
        | nil=>simp
        | cons q m ih =>
          intro x hx
          unfold qbu at hs
          by_cases hq:w=q.1
          ·rw[if_pos hq] at hs;exact absurd rfl hs
          ·rw[if_neg hq] at hs
           rcases List.mem_cons.1 hx with rfl | hx
           ·exact hq
           ·exact ih hs x hx
       have h2:m.map (fun p=>if w=p.1 then (w,b) else p)=m.map id:=List.map_congr_left fun q hq=>if_neg (hn q hq)
       rw[h2,List.map_id]
      rw[this]
   ·rw[if_neg hw]
    unfold qbu at h
    rw[if_neg hw] at h
    have:=qjV v w b m h
    unfold qoT at this
    simp only[qbu]
    rw[this]
    by_cases h1:v=p.1
    ·rw[if_pos h1,if_neg (by omega),if_pos h1]
    ·rw[if_neg h1,if_neg h1]
theorem qcR (v w:Int) (b:β) (m:IM β):qbu v (qjf w b m)=if v=w then some b else qbu v m:=by
 unfold qjf
 by_cases h:(qbu w m).isSome=true
 ·rw[if_pos h,qjV v w b m h]
 ·rw[if_neg h,qnM v w b m (by simpa using h)]
end
abbrev encU:IM Unit→List (AVal × AVal):=qk0 fun _=>.agg []
def qdb (_:Nat) (s:IM Unit) (n:Int):Except Unit (IM Unit):=if (qbu n s).isSome=true then .error () else .ok (qjf n () s)
theorem qwh (ns:List Int):∀ (i:Nat) (s:IM Unit),(∃ u,qbx qdb ns i s=.error u)↔¬ (ns.Nodup∧∀ n∈ns,qbu n s=none):=by
 induction ns with
 | nil=>intro i s;simp[qbx]
 | cons n ns ih =>
   intro i s
   rw[qbx]
   unfold qdb
   by_cases h:(qbu n s).isSome=true
   ·rw[if_pos h]
    simp only[List.forall_mem_cons]
    constructor
    ·intro _ hx
     rw[hx.2.1] at h
     cases h
    ·intro _;simp
   ·rw[if_neg h]
    dsimp only
    have h':qbu n s=none:=by simpa using h
    have:=ih (i+1) (qjf n () s)
    unfold qdb at this
    rw[this]
    simp only[qcR,List.nodup_cons,List.forall_mem_cons]
    apply not_congr
    constructor
    ·rintro ⟨h1,h2⟩
     refine⟨⟨?_,h1⟩,h',?_⟩
     ·intro hm
      have:=h2 n hm
      rw[if_pos rfl] at this
      cases this
     ·intro m hm
      have:=h2 m hm
      by_cases e:m=n
      ·rw[if_pos e] at this;cases this
      ·rwa [if_neg e] at this
    ·rintro ⟨⟨h1,h2⟩,_,h4⟩
     refine⟨h2,fun m hm=>?_⟩
     rw[if_neg (fun e:m=n=>h1 (e ▸ hm))]
     exact h4 m hm
theorem qbg (s:IM Unit):qpp (.map (encU s))=[]:=qzC _ (fun _=>rfl) s
theorem qbh (ρ:Nat→Option Nat) (s:IM Unit):qeH ρ (.map (encU s))=.map (encU s):=qzN _ (fun _=>rfl) ρ s
section
variable {L:Lib} (hL:Plain L)
def qpd (E:AVal) (s:IM Unit) (ns:List Int) (j:Nat):St:=⟨kt [0,5,18,19,20] [E,.map (some 0),.list (ns.map qat) none,.int .i64 ns.length,.int .i64 j],[.map (encU s)]⟩
def qpe (E:AVal) (v:AVal) (s:IM Unit):St:=⟨kt [0,4,5] [E,v,.map (some 0)],[.map (encU s)]⟩
theorem qwm (E:AVal) (hE:qaB E=true) (ns:List Int) (hl:ns.length<2 ^ 30) (s0:IM Unit) :
  (∀ s,qbx qdb ns 0 s0=.ok s→True∧qa2 L.pure (call L) 1 [0,5,18,19,20] [0,4,5] 0 qgf (qpd E s0 ns 0)=some (.normal,qpe E .junk s)) ∧
  (∀ u,qbx qdb ns 0 s0=.error u→∃ R,(∃ s,R=qpe E (.bool true) s)∧qa2 L.pure (call L) 1 [0,5,18,19,20] [0,4,5] 0 qgf (qpd E s0 ns 0)=some (.ret,R)):=by
 refine qch ns qdb (fun s j=>qpd E s ns j) (qpe E .junk) (fun _ R=>∃ s,R=qpe E (.bool true) s) (fun _ _=>True) s0 trivial ?_ ?_ ?_
 ·intro i hi s s' _ hq
  obtain⟨h1,h2,h3⟩:=qaM qat ns hl i hi
  refine⟨?_,trivial⟩
  unfold qdb at hq
  split at hq
  ·cases hq
  ·rename_i hn
   injection hq with hq
   subst hq
   generalize ns[i]=n at *
   have hf:qbu n s=none:=by simpa using hn
   have hlk:=fun (h:Heap) (hr:h[0]? = some (.map (encU s)))=>qoh (fun _:Unit=>AVal.agg []) h 0 (.agg []) true n s hr
   have hup:=fun (h:Heap) (hr:h[0]? = some (.map (encU s)))=>qAa (fun _:Unit=>AVal.agg []) h 0 n () s rfl hr
   rw[hf] at hlk
   unfold qgf qpd
   simp -implicitDefEqProofs only[ev_,aOp,opd,qaa,qar,qaA,qaz,qad,qab,qag,qaI,qbP,qaq,qax,ren,renC,qa0,qbb,↓reduceIte,reduceCtorEq,Nat.reduceEqDiff,Nat.reduceAdd,Nat.reduceLT,Nat.reduceLeDiff,qaT,qah,h1,h2,h3,hlk,hup,hE,qbg,qbh]
 ·intro i hi s u _ hq
  obtain⟨h1,h2,h3⟩:=qaM qat ns hl i hi
  refine⟨_,⟨s,rfl⟩,?_⟩
  unfold qdb at hq
  split at hq
  ·rename_i hn
   generalize ns[i]=n at *
   obtain⟨x,hf⟩:=Option.isSome_iff_exists.1 hn
   have hlk:=fun (h:Heap) (hr:h[0]? = some (.map (encU s)))=>qoh (fun _:Unit=>AVal.agg []) h 0 (.agg []) true n s hr
   rw[hf] at hlk
   unfold qgf qpd qpe
   simp -implicitDefEqProofs only[ev_,aOp,opd,qaa,qar,qaA,qaz,qad,qab,qag,qaI,qaq,gcE,qax,ren,renC,qa0,qbb,↓reduceIte,reduceCtorEq,Nat.reduceEqDiff,Nat.reduceAdd,Nat.reduceLT,Nat.reduceLeDiff,qaT,h1,h2,h3,hlk,hE,qbg,qbh]
  ·cases hq
 ·intro s _
  have h0:=qaQ ns.length
  unfold qgf qpd qpe
  simp -implicitDefEqProofs only[ev_,aOp,opd,qaa,qaA,qaz,qab,gcE,qax,ren,renC,qa0,qbb,↓reduceIte,reduceCtorEq,Nat.reduceEqDiff,Nat.reduceLT,Nat.reduceLeDiff,h0,hE,qbg,qbh]
def qbw (x:CExpr):List Int:=qaN x.op x.binds x.alts
def quW (x:CExpr):Prop:=(x.binds++x.alts.flatMap (·.binds)).length<2 ^ 30
def qpf (e:List CExpr) (x:CExpr) (i:Nat) (ns:List Int) (s:IM Unit) (j:Nat):St:=⟨kt [5,35,36,37,50,51,52] [.map (some 0),.list (e.map qal) none,.int .i64 e.length,.int .i64 i,.list (ns.map qat) none,.int .i64 ns.length,.int .i64 j],
 [.map (encU s),.box [.int .i64 x.op,.int .i64 x.n,.list (x.binds.map qat) none,.list (x.kids.map qat) none,.list (x.alts.map qas) none],.gone]⟩
def qpg (e:List CExpr) (x:CExpr) (i:Nat) (v:AVal) (s:IM Unit):St:=⟨kt [4,5,35,36,37] [v,.map (some 0),.list (e.map qal) none,.int .i64 e.length,.int .i64 i],
 [.map (encU s),.box [.int .i64 x.op,.int .i64 x.n,.list (x.binds.map qat) none,.list (x.kids.map qat) none,.list (x.alts.map qas) none],.gone]⟩
theorem qrs (e:List CExpr) (x:CExpr) (i:Nat) (ns:List Int) (hl:ns.length<2 ^ 30) (s0:IM Unit) :
  (∀ s,qbx qdb ns 0 s0=.ok s→True∧qa2 L.pure (call L) 3 [5,35,36,37,50,51,52] [4,5,35,36,37] 4 qgg (qpf e x i ns s0 0)=some (.normal,qpg e x i .junk s)) ∧
  (∀ u,qbx qdb ns 0 s0=.error u→∃ R,(∃ s,R=qpg e x i (.bool true) s)∧qa2 L.pure (call L) 3 [5,35,36,37,50,51,52] [4,5,35,36,37] 4 qgg (qpf e x i ns s0 0)=some (.ret,R)):=by
 have hdE:=qaD e
 refine qch ns qdb (fun s j=>qpf e x i ns s j) (qpg e x i .junk) (fun _ R=>∃ s,R=qpg e x i (.bool true) s) (fun _ _=>True) s0 trivial ?_ ?_ ?_
 ·intro j hj s s' _ hq
  obtain⟨h1,h2,h3⟩:=qaM qat ns hl j hj
  refine⟨?_,trivial⟩
  unfold qdb at hq
  split at hq
  ·cases hq
  ·rename_i hn
   injection hq with hq
   subst hq
   generalize ns[j]=n at *
   have hf:qbu n s=none:=by simpa using hn
   have hlk:=fun (h:Heap) (hr:h[0]? = some (.map (encU s)))=>qoh (fun _:Unit=>AVal.agg []) h 0 (.agg []) true n s hr
   have hup:=fun (h:Heap) (hr:h[0]? = some (.map (encU s)))=>qAa (fun _:Unit=>AVal.agg []) h 0 n () s rfl hr
   rw[hf] at hlk
   unfold qgg qpf
   simp -implicitDefEqProofs only[ev_,aOp,opd,qaa,qar,qaA,qaz,qad,qab,qag,qaI,qbP,qaq,qax,ren,renC,qa0,qbb,↓reduceIte,Nat.reduceEqDiff,Nat.reduceAdd,Nat.reduceLT,Nat.reduceLeDiff,qaT,qah,qan,h1,h2,h3,hlk,hup,hdE,qbg,qbh]
 ·intro j hj s u _ hq
  obtain⟨h1,h2,h3⟩:=qaM qat ns hl j hj
  refine⟨_,⟨s,rfl⟩,?_⟩
  unfold qdb at hq
  split at hq
  ·rename_i hn
   generalize ns[j]=n at *
   obtain⟨y,hf⟩:=Option.isSome_iff_exists.1 hn
   have hlk:=fun (h:Heap) (hr:h[0]? = some (.map (encU s)))=>qoh (fun _:Unit=>AVal.agg []) h 0 (.agg []) true n s hr
   rw[hf] at hlk
   unfold qgg qpf qpg
   simp -implicitDefEqProofs only[ev_,aOp,opd,qaa,qar,qaA,qaz,qad,qab,qag,qaI,qaq,gcE,qax,ren,renC,qa0,qbb,↓reduceIte,Nat.reduceEqDiff,Nat.reduceAdd,Nat.reduceLT,Nat.reduceLeDiff,qaT,qah,qan,h1,h2,h3,hlk,hdE,qbg,qbh]
  ·cases hq
 ·intro s _
  have h0:=qaQ ns.length
  unfold qgg qpf qpg
  simp -implicitDefEqProofs only[ev_,aOp,opd,qaa,qaA,qaz,qab,gcE,qax,ren,renC,qa0,qbb,↓reduceIte,Nat.reduceEqDiff,Nat.reduceAdd,Nat.reduceLT,Nat.reduceLeDiff,qah,qan,h0,hdE,qbg,qbh]
theorem qmW (op:Int) (binds:List Int) (as:List CAlt):(qaN op binds as).length≤(binds++as.flatMap (·.binds)).length:=by
 unfold qaN
 rw[List.length_append,List.length_append]
 split<;>simp
theorem qAF:encU []=[]:=rfl
include hL
def qph (e:List CExpr) (s:IM Unit) (i:Nat):St:=⟨kt [5,35,36,37] [.map (some 0),.list (e.map qal) none,.int .i64 e.length,.int .i64 i],[.map (encU s)]⟩
def qiO (_:Nat) (s:IM Unit) (x:CExpr):Except Unit (IM Unit):=qbx qdb (qbw x) 0 s
theorem qwn (h232:L.fns 232=some fn232) (e:List CExpr) (hl:e.length<2 ^ 30) (hf:∀ x∈e,NodeFit x) (hb:∀ x∈e,quW x) (s0:IM Unit) :
  (∀ s,qbx qiO e 0 s0=.ok s→True∧qa2 L.pure (call L) 1 [5,35,36,37] [4] 2 qgh (qph e s0 0)=some (.normal,⟨kt [4] [.junk],[.map (encU s)]⟩)) ∧
  (∀ u,qbx qiO e 0 s0=.error u→∃ R,(∃ s:IM Unit,R=⟨kt [4] [.bool true],[.map (encU s)]⟩)∧qa2 L.pure (call L) 1 [5,35,36,37] [4] 2 qgh (qph e s0 0)=some (.ret,R)):=by
 have hp:=hL.pure
 have hdE:=qaD e
 refine qch e qiO (qph e) (fun s=>⟨kt [4] [.junk],[.map (encU s)]⟩) (fun _ R=>∃ s:IM Unit,R=⟨kt [4] [.bool true],[.map (encU s)]⟩) (fun _ _=>True) s0 trivial ?_ ?_ ?_
 ·intro i hi s s' _ hq
  obtain⟨h1,h2,h3⟩:=qaM qal e hl i hi
  refine⟨?_,trivial⟩
  have hx:=hf e[i] (List.getElem_mem hi)
  have hbx:=hb e[i] (List.getElem_mem hi)
  generalize e[i]=x at *
  unfold quW at hbx
  have hbo:=qem hL h232 x.op 0 x.binds (.list [] none) rfl x.alts hx.alts (by omega)
  have hle:=qmW x.op x.binds x.alts
  obtain⟨ha,_⟩:=qrs (L:=L) e x i (qbw x) (by unfold qbw;omega) s
  obtain⟨_,ha⟩:=ha s' hq
  unfold qpf qpg at ha
  unfold qbw at ha
  simp only[Int.natCast_zero] at ha
  unfold qgh qph
  simp -implicitDefEqProofs only[ev_,aOp,opd,qaa,qar,qaA,qa7,qaz,qad,qab,qag,qaI,qaJ,qai,qbP,qbW,leaf,qaq,qax,ren,renC,qa0,qbb,↓reduceIte,reduceCtorEq,Nat.reduceEqDiff,Nat.reduceAdd,Nat.reduceLT,Nat.reduceLeDiff,frz,frzC,qiT,qaP,qah,qan,h1,h2,h3,hbo,ha,hdE,qbg,qbh,qam L hp,hp]
 ·intro i hi s u _ hq
  obtain⟨h1,h2,h3⟩:=qaM qal e hl i hi
  have hx:=hf e[i] (List.getElem_mem hi)
  have hbx:=hb e[i] (List.getElem_mem hi)
  generalize e[i]=x at *
  unfold quW at hbx
  have hbo:=qem hL h232 x.op 0 x.binds (.list [] none) rfl x.alts hx.alts (by omega)
  have hle:=qmW x.op x.binds x.alts
  obtain⟨_,ha⟩:=qrs (L:=L) e x i (qbw x) (by unfold qbw;omega) s
  obtain⟨R,⟨t,rfl⟩,ha⟩:=ha u hq
  refine⟨_,⟨t,rfl⟩,?_⟩
  unfold qpf qpg at ha
  unfold qbw at ha
  simp only[Int.natCast_zero] at ha
  unfold qgh qph
  simp -implicitDefEqProofs only[ev_,aOp,opd,qaa,qar,qaA,qa7,qaz,qad,qab,qag,qaI,qaJ,qai,qbP,qbW,leaf,qaq,gcE,qax,ren,renC,qa0,qbb,↓reduceIte,reduceCtorEq,Nat.reduceEqDiff,Nat.reduceAdd,Nat.reduceLT,Nat.reduceLeDiff,frz,frzC,qiT,qaP,qah,qan,h1,h2,h3,hbo,ha,hdE,qbg,qbh,qam L hp,hp]
 ·intro s _
  have h0:=qaQ e.length
  unfold qgh qph
  simp -implicitDefEqProofs only[ev_,aOp,opd,qaa,qaA,qaz,qab,gcE,qax,ren,renC,qa0,qbb,↓reduceIte,Nat.reduceEqDiff,h0,hdE,qbg,qbh]
def qin (e:List CExpr) (ps:List Int):Bool :=
 match qbx qdb ps 0 [] with
 | .error _=>true
 | .ok s=>(match qbx qiO e 0 s with | .error _=>true | .ok _=>false)
theorem qwo (h232:L.fns 232=some fn232) (h195:L.fns 195=some fn195) (e:List CExpr) (hl:e.length<2 ^ 30) (hf:∀ x∈e,NodeFit x) (hb:∀ x∈e,quW x) (ps:List Int) (hps:ps.length<2 ^ 30) (h:Heap) :
  pcall L 195 [.list (e.map qal) none,.list (ps.map qat) none] h=some (.val (.bool (qin e ps)),h):=by
 have hdE:=qaD e
 refine qaV hL h195 rfl ?_ h
 obtain⟨ha,hb1⟩:=qwm (L:=L) (.list (e.map qal) none) (by rw[qaS];exact hdE) ps hps []
 unfold qin
 cases hq:qbx qdb ps 0 [] with
 | error u =>
   obtain⟨R,⟨s,rfl⟩,hl0⟩:=hb1 u hq
   unfold qpd qpe at hl0
   simp only[Int.natCast_zero,qAF] at hl0
   unfold fn195
   simp -implicitDefEqProofs only[ev_,aOp,opd,qaa,qa7,qap,qac,qaf,qaj,qax,ren,renC,qa0,qbb,↓reduceIte,reduceCtorEq,Nat.reduceEqDiff,Nat.reduceLT,Nat.reduceLeDiff,qak,qah,hl0,hdE,qbg,qbh]
 | ok s =>
   obtain⟨_,hl0⟩:=ha s hq
   unfold qpd qpe at hl0
   simp only[Int.natCast_zero,qAF] at hl0
   obtain⟨hc,hd⟩:=qwn hL h232 e hl hf hb s
   dsimp only
   cases hr:qbx qiO e 0 s with
   | error u =>
     obtain⟨R,⟨t,rfl⟩,hl2⟩:=hd u hr
     unfold qph at hl2
     simp only[Int.natCast_zero] at hl2
     unfold fn195
     simp -implicitDefEqProofs only[ev_,aOp,opd,qaa,qa7,qap,qac,qaf,qaj,qax,ren,renC,qa0,qbb,↓reduceIte,reduceCtorEq,Nat.reduceEqDiff,Nat.reduceLT,Nat.reduceLeDiff,qak,qah,hl0,hl2,hdE,qbg,qbh]
   | ok t =>
     obtain⟨_,hl2⟩:=hc t hr
     unfold qph at hl2
     simp only[Int.natCast_zero] at hl2
     unfold fn195
     simp -implicitDefEqProofs only[ev_,aOp,opd,qaa,qa7,qap,qac,qaf,qaj,qax,ren,renC,qa0,qbb,↓reduceIte,reduceCtorEq,Nat.reduceEqDiff,Nat.reduceLT,Nat.reduceLeDiff,qak,qah,hl0,hl2,hdE,qbg,qbh]
end
section
theorem qsq:∀ (e:List CExpr) (i j:Nat) (s:IM Unit),qbx qiO e i s=qbx qdb (e.flatMap qbw) j s:=by
 have hidx:∀ (ns:List Int) (i j:Nat) (s:IM Unit),qbx qdb ns i s=qbx qdb ns j s:=by
  intro ns
  induction ns with
  | nil=>intros;rfl
  | cons n ns ih =>
    intro i j s
    rw[qbx,qbx]
    have:qdb i s n=qdb j s n:=rfl
    rw[this]
    cases qdb j s n with
    | error u=>rfl
    | ok t=>exact ih _ _ t
 have happ:∀ (ns ms:List Int) (i:Nat) (s:IM Unit),qbx qdb (ns++ms) i s=(match qbx qdb ns i s with | .ok t=>qbx qdb ms 0 t | .error u=>.error u):=by
  intro ns
  induction ns with
  | nil=>intro ms i s;exact hidx ms i 0 s
  | cons n ns ih =>
    intro ms i s
    rw[List.cons_append,qbx,qbx]
    cases qdb i s n with
    | error u=>rfl
    | ok t=>exact ih ms (i+1) t
 intro e
 induction e with
 | nil=>intros;rfl
 | cons x e ih =>
   intro i j s
   rw[List.flatMap_cons,happ,qbx,hidx _ j 0]
   unfold qiO
   cases qbx qdb (qbw x) 0 s with
   | error u=>rfl
   | ok t=>exact ih _ 0 t
theorem qkN (e:List CExpr):qin e [] = !decide (e.flatMap qbw).Nodup:=by
 unfold qin
 have hs:=qwh (e.flatMap qbw) 0 []
 rw[← qsq e 0 0 []] at hs
 dsimp only[qbx]
 cases hq:qbx qiO e 0 [] with
 | error u =>
   have:¬ (e.flatMap qbw).Nodup:=fun h=>hs.1 ⟨u,hq⟩ ⟨h,fun _ _=>rfl⟩
   simp[this]
 | ok t =>
   have:(e.flatMap qbw).Nodup:=by
    refine Classical.byContradiction fun h=>?_
    obtain⟨u,hu⟩:=hs.2 fun hx=>h hx.1
    rw[hq] at hu
    cases hu
   simp[this]
end
structure CPrims (L:Lib) (sortI:List Int→List Int):Prop where
 clone:∀ (l:List Int) (h:Heap),l.length<2 ^ 30→pcall L 188 [.list (l.map qat) none] h=some (.val (.list (l.map qat) none),h)
 sort:∀ (l:List Int),l≠[]→l.length<2 ^ 30→call L 138 [.vec 0 l.length] [.vec (l.map qat) 1]=some (.val (.tuple []),[.vec ((sortI l).map qat) 1])
 sort0:∀ h:Heap,pcall L 138 [.list [] none] h=some (.val (.tuple []),h)
def CTree.none:CTree:=.mk 0 0 [] [] []
def qdE (ts:List CTree) (x:CExpr):List CTree:=ts++[.mk x.op x.n x.binds (x.kids.map fun k=>ts.getD k.toNat .none) x.alts]
def qdv (e:List CExpr):List CTree:=e.foldl qdE []
def qbr (e:List CExpr):CTree:=(qdv e).getD (e.length-1) .none
def qdz (e:List CExpr):Prop:=∀ (i:Nat) (hi:i<e.length),∀ k∈e[i].kids,0≤k∧k<i
theorem qgw (cs:List AVal) (n:Nat):wipeR (.vptr cs n)=.vptr cs n:=rfl
theorem qbz (t:CTree):∃ tc,qao t=.vptr tc 0∧qaw tc=true:=by
 have h:=qbO t
 cases t
 rw[qa5] at h ⊢
 exact⟨_,rfl,h⟩
section
variable {L:Lib} (hL:Plain L)
def qei (x:CExpr):AObj:=.box [.int .i64 x.op,.int .i64 x.n,.list (x.binds.map qat) none,.list (x.kids.map qat) none,.list (x.alts.map qas) none]
end
section
theorem qiB (e:List CExpr) (i:Nat) (hi:i<e.length):qdv (e.take (i+1))=qdE (qdv (e.take i)) e[i]:=by
 unfold qdv
 rw[List.take_succ_eq_append_getElem hi,List.foldl_append]
 rfl
theorem qgG:∀ (e:List CExpr) (ts:List CTree),(e.foldl qdE ts).length=ts.length+e.length
 | [],ts=>rfl
 | x :: e,ts => by
   rw[List.foldl_cons,qgG e]
   simp[qdE]
   omega
theorem qpR (e:List CExpr):(qdv e).length=e.length:=by
 unfold qdv
 rw[qgG]
 simp
theorem qiD (e:List CExpr) (i:Nat) (hi:i≤e.length):(qdv (e.take i)).length=i:=by
 rw[qpR]
 simp
 omega
end
end Go.Abs
