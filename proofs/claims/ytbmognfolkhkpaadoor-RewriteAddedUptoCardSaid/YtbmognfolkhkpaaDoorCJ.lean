/-
  PARTS OF A PROOF, joined: an abstract machine for quiet code, its evaluation, and what the seat's functions answer on it. Conditions: none.
-/
import Derived.Test.YtbmognfolkhkpaaDoorG
set_option linter.unusedVariables false
set_option linter.unusedSimpArgs false
set_option maxRecDepth 100000
set_option maxHeartbeats 4000000
namespace Go.Abs
abbrev IM (β:Type):=List (Int × β)
section
variable {β:Type} (f:β→AVal)
def qlA (m:IM β):List (AVal × AVal):=m.map fun p=>(.int .i64 p.1,f p.2)
theorem qym (hf:∀ b,qbd (f b)=true) (ρ:Nat→Option Nat) (m:IM β):qfN ρ (.map (qlA f m))=.map (qlA f m):=by
 have h1:∀ v:AVal,qbd v=true→ren ρ v=v:=fun v hv=>by unfold ren;rw[if_pos hv]
 unfold qfN qlA
 dsimp only
 rw[List.map_map]
 congr 1
 refine List.map_congr_left fun p _=>?_
 simp only[Function.comp,h1 _ (hf p.2),h1 (.int .i64 p.1) rfl]
theorem qyc (hf:∀ b,qbd (f b)=true) (m:IM β):qo2 (.map (qlA f m))=[]:=by
 have h1:∀ v:AVal,qbd v=true→qbU v=[]:=fun v hv=>by unfold qbU;rw[if_pos hv]
 unfold qo2 qlA
 dsimp only
 induction m with
 | nil=>rfl
 | cons p m ih =>
   rw[List.map_cons,List.flatMap_cons,h1 _ (hf p.2),h1 (.int .i64 p.1) rfl]
   exact ih
def qcP (v:Int):IM β→Option β
 | []=>none
 | p::m=>if v=p.1 then some p.2 else qcP v m
def qoA (v:Int) (b:β) (m:IM β):IM β:=m.map fun p=>if v=p.1 then (v,b) else p
def qmT (v:Int) (b:β):IM β→IM β
 | []=>[(v,b)]
 | p::m=>if v<p.1 then (v,b)::p::m else p::qmT v b m
def qo4 (v:Int) (b:β) (m:IM β):IM β:=if (qcP v m).isSome=true then qoA v b m else qmT v b m
theorem qi6 {v:Int} {b:β}:∀ {m:IM β} (i:Nat),qcP v m=some b→∃ j,qbZ (.int .i64 v) (qlA f m) i=some (some (j,f b))
 | [],i,h=>by cases h
 | p :: m,i,h => by
   unfold qcP at h
   by_cases hv:v=p.1
   ·rw[if_pos hv] at h
    injection h with h
    subst h
    exact⟨i,by simp[qlA,qbZ,qdR,hv]⟩
   ·rw[if_neg hv] at h
    obtain⟨j,hj⟩:=qi6 (i+1) h
    have hb:(v==p.1)=false:=by simpa using hv
    exact⟨j,by rw[← hj];simp[qlA,qbZ,qdR,hb]⟩
theorem qi5 {v:Int}:∀ {m:IM β} (i:Nat),qcP v m=none→qbZ (.int .i64 v) (qlA f m) i=some none
 | [],i,h=>rfl
 | p :: m,i,h => by
   unfold qcP at h
   by_cases hv:v=p.1
   ·rw[if_pos hv] at h
    cases h
   ·rw[if_neg hv] at h
    have hb:(v==p.1)=false:=by simpa using hv
    rw[← qi5 (i+1) h]
    simp[qlA,qbZ,qdR,hb]
theorem qqd (v:Int) (b:β):∀ m:IM β,qxV (.int .i64 v) (f b) (qlA f m)=qlA f (qmT v b m)
 | []=>rfl
 | p :: m => by
   unfold qmT qlA
   rw[List.map_cons,qxV]
   simp only[qye,decide_eq_true_eq]
   by_cases h:v<p.1
   ·rw[if_pos h,if_pos h]
    rfl
   ·rw[if_neg h,if_neg h,List.map_cons]
    exact congrArg _ (qqd v b m)
theorem qua (v:Int) (b:β) (m:IM β):qxI (.int .i64 v) (f b) (qlA f m)=qlA f (qoA v b m):=by
 unfold qxI qlA qoA
 rw[List.map_map,List.map_map]
 refine List.map_congr_left fun p _=>?_
 simp only[Function.comp,qdR,if_true,Option.some.injEq,beq_iff_eq]
 by_cases h:v=p.1
 ·rw[if_pos h,if_pos h]
 ·rw[if_neg h,if_neg h]
theorem qrg (h:Heap) (r:Nat) (zero:AVal) (ok:Bool) (v:Int) (m:IM β) (hr:h[r]? = some (.map (qlA f m))) :
  qiX h .int zero ok (.map (some r)) (.int .i64 v)=some (match qcP v m with | some b=>(if ok=true then .tuple [f b,.bool true] else f b) | none=>(if ok=true then .tuple [zero,.bool false] else zero)):=by
 unfold qiX qod
 rw[if_pos (show qdS .int (.int .i64 v)=true from rfl)]
 dsimp only
 rw[hr]
 dsimp only
 cases hq:qcP v m with
 | some b =>
   obtain⟨j,hj⟩:=qi6 f 0 hq
   rw[hj]
 | none=>rw[qi5 f 0 hq]
theorem qyE (h:Heap) (r:Nat) (v:Int) (b:β) (m:IM β) (hw:wipe (f b)=f b) (hr:h[r]? = some (.map (qlA f m))) :
  qeW h .int (.map (some r)) (.int .i64 v) (f b)=some (h.set r (.map (qlA f (qo4 v b m)))):=by
 unfold qeW qo4
 dsimp only
 rw[hr]
 dsimp only
 rw[if_pos (show qdS .int (.int .i64 v)=true from rfl),hw]
 cases hq:qcP v m with
 | some c =>
   obtain⟨j,hj⟩:=qi6 f 0 hq
   rw[hj]
   simp only[Option.isSome_some,if_true,qua]
 | none =>
   rw[qi5 f 0 hq]
   simp only[Option.isSome_none,Bool.false_eq_true,if_false,qqd]
theorem qnK (v w:Int) (b:β):∀ m:IM β,qcP w m=none→qcP v (qmT w b m)=if v=w then some b else qcP v m
 | [],_=>by simp[qmT,qcP]
 | p :: m,h => by
   unfold qcP at h
   have hw:¬ w=p.1:=by
    intro e
    rw[if_pos e] at h
    cases h
   rw[if_neg hw] at h
   have ih:=qnK v w b m h
   unfold qmT
   by_cases hlt:w<p.1
   ·rw[if_pos hlt]
    simp only[qcP]
   ·rw[if_neg hlt]
    simp only[qcP]
    rw[ih]
    by_cases h1:v=p.1
    ·have:¬ v=w:=by omega
     rw[if_pos h1,if_neg this,if_pos h1]
    ·rw[if_neg h1,if_neg h1]
theorem qkL (v w:Int) (b:β):∀ m:IM β,(qcP w m).isSome=true→qcP v (qoA w b m)=if v=w then some b else qcP v m
 | [],h=>by cases h
 | p :: m,h => by
   unfold qoA
   rw[List.map_cons]
   by_cases hw:w=p.1
   ·rw[if_pos hw]
    simp only[qcP]
    by_cases hv:v=w
    ·rw[if_pos hv,if_pos hv]
    ·rw[if_neg hv,if_neg hv,if_neg (by omega)]
     by_cases hs:(qcP w m).isSome=true
     ·have:=qkL v w b m hs
      unfold qoA at this
      rw[this,if_neg hv]
     ·have:m.map (fun p=>if w=p.1 then (w,b) else p)=m:=by
       have hn:∀ q∈m,¬ w=q.1:=by
        clear h
        induction m with
        | nil=>simp
        | cons q m ih =>
          intro x hx
          unfold qcP at hs
          by_cases hq:w=q.1
          ·rw[if_pos hq] at hs;exact absurd rfl hs
          ·rw[if_neg hq] at hs
           rcases List.mem_cons.1 hx with rfl | hx
           ·exact hq
           ·exact ih hs x hx
       have h2:m.map (fun p=>if w=p.1 then (w,b) else p)=m.map id:=List.map_congr_left fun q hq=>if_neg (hn q hq)
       rw[h2,List.map_id]
      rw[this]
   ·rw[if_neg hw]
    unfold qcP at h
    rw[if_neg hw] at h
    have:=qkL v w b m h
    unfold qoA at this
    simp only[qcP]
    rw[this]
    by_cases h1:v=p.1
    ·rw[if_pos h1,if_neg (by omega),if_pos h1]
    ·rw[if_neg h1,if_neg h1]
theorem qil (v w:Int) (b:β) (m:IM β):qcP v (qo4 w b m)=if v=w then some b else qcP v m:=by
 unfold qo4
 by_cases h:(qcP w m).isSome=true
 ·rw[if_pos h,qkL v w b m h]
 ·rw[if_neg h,qnK v w b m (by simpa using h)]
end
abbrev encU:IM Unit→List (AVal × AVal):=qlA fun _=>.agg []
def qen (_:Nat) (s:IM Unit) (n:Int):Except Unit (IM Unit):=if (qcP n s).isSome=true then .error () else .ok (qo4 n () s)
theorem qvf (ns:List Int):∀ (i:Nat) (s:IM Unit),(∃ u,qcx qen ns i s=.error u)↔¬ (ns.Nodup∧∀ n∈ns,qcP n s=none):=by
 induction ns with
 | nil=>intro i s;simp[qcx]
 | cons n ns ih =>
   intro i s
   rw[qcx]
   unfold qen
   by_cases h:(qcP n s).isSome=true
   ·rw[if_pos h]
    simp only[List.forall_mem_cons]
    constructor
    ·intro _ hx
     rw[hx.2.1] at h
     cases h
    ·intro _;simp
   ·rw[if_neg h]
    dsimp only
    have h':qcP n s=none:=by simpa using h
    have:=ih (i+1) (qo4 n () s)
    unfold qen at this
    rw[this]
    simp only[qil,List.nodup_cons,List.forall_mem_cons]
    apply not_congr
    constructor
    ·rintro ⟨h1,h2⟩
     refine⟨⟨?_,h1⟩,h',?_⟩
     ·intro hm
      have:=h2 n hm
      rw[if_pos rfl] at this
      cases this
     ·intro m hm
      have:=h2 m hm
      by_cases e:m=n
      ·rw[if_pos e] at this;cases this
      ·rwa [if_neg e] at this
    ·rintro ⟨⟨h1,h2⟩,_,h4⟩
     refine⟨h2,fun m hm=>?_⟩
     rw[if_neg (fun e:m=n=>h1 (e ▸ hm))]
     exact h4 m hm
theorem qce (s:IM Unit):qo2 (.map (encU s))=[]:=qyc _ (fun _=>rfl) s
theorem qcf (ρ:Nat→Option Nat) (s:IM Unit):qfN ρ (.map (encU s))=.map (encU s):=qym _ (fun _=>rfl) ρ s
section
variable {L:Lib} (hL:Plain L)
def qoW (E:AVal) (s:IM Unit) (ns:List Int) (j:Nat):St:=⟨kt [0,5,18,19,20] [E,.map (some 0),.list (ns.map qaY) none,.int .i64 ns.length,.int .i64 j],[.map (encU s)]⟩
def qoX (E:AVal) (v:AVal) (s:IM Unit):St:=⟨kt [0,4,5] [E,v,.map (some 0)],[.map (encU s)]⟩
theorem qvj (E:AVal) (hE:qbd E=true) (ns:List Int) (hl:ns.length<2 ^ 30) (s0:IM Unit) :
  (∀ s,qcx qen ns 0 s0=.ok s→True∧qb7 L.pure (call L) 1 [0,5,18,19,20] [0,4,5] 0 qhf (qoW E s0 ns 0)=some (.normal,qoX E .junk s)) ∧
  (∀ u,qcx qen ns 0 s0=.error u→∃ R,(∃ s,R=qoX E (.bool true) s)∧qb7 L.pure (call L) 1 [0,5,18,19,20] [0,4,5] 0 qhf (qoW E s0 ns 0)=some (.ret,R)):=by
 refine qdt ns qen (fun s j=>qoW E s ns j) (qoX E .junk) (fun _ R=>∃ s,R=qoX E (.bool true) s) (fun _ _=>True) s0 trivial ?_ ?_ ?_
 ·intro i hi s s' _ hq
  obtain⟨h1,h2,h3⟩:=qbz qaY ns hl i hi
  refine⟨?_,trivial⟩
  unfold qen at hq
  split at hq
  ·cases hq
  ·rename_i hn
   injection hq with hq
   subst hq
   generalize ns[i]=n at *
   have hf:qcP n s=none:=by simpa using hn
   have hlk:=fun (h:Heap) (hr:h[0]? = some (.map (encU s)))=>qrg (fun _:Unit=>AVal.agg []) h 0 (.agg []) true n s hr
   have hup:=fun (h:Heap) (hr:h[0]? = some (.map (encU s)))=>qyE (fun _:Unit=>AVal.agg []) h 0 n () s rfl hr
   rw[hf] at hlk
   unfold qhf qoW
   simp -implicitDefEqProofs only[qam,qad,qae,qab,qal,qac,qah,aOp,opd,qai,qa3,qaB,qag,qaZ,qbb,qba,qas,qaj,qaA,qby,qcZ,qar,qaM,qaV,qa0,qaf,qaE,qat,qaD,qaF,qa5,ren,renC,qbU,qcd,qaa,qaq,qbB,Option.map_some,List.map_cons,List.map_nil,List.flatMap_cons,List.flatMap_nil,List.length_cons,List.length_nil,List.cons_append,List.nil_append,List.append_nil,List.getElem?_cons_zero,List.getElem?_cons_succ,List.set_cons_zero,List.set_cons_succ,List.take_succ_cons,List.take_zero,List.take_nil,List.drop_nil,List.all_nil,List.not_mem_nil,↓reduceIte,Bool.false_eq_true,and_true,not_false_eq_true,decide_true,decide_false,and_self,Nat.le_refl,reduceCtorEq,Nat.add_zero,Nat.zero_add,Nat.reduceEqDiff,Nat.reduceAdd,Nat.reduceLT,Nat.reduceLeDiff,Int.toNat_natCast,Int.natCast_nonneg,qaz,qa1,qb1,qay,h1,h2,h3,hlk,hup,hE,qce,qcf]
 ·intro i hi s u _ hq
  obtain⟨h1,h2,h3⟩:=qbz qaY ns hl i hi
  refine⟨_,⟨s,rfl⟩,?_⟩
  unfold qen at hq
  split at hq
  ·rename_i hn
   generalize ns[i]=n at *
   obtain⟨x,hf⟩:=Option.isSome_iff_exists.1 hn
   have hlk:=fun (h:Heap) (hr:h[0]? = some (.map (encU s)))=>qrg (fun _:Unit=>AVal.agg []) h 0 (.agg []) true n s hr
   rw[hf] at hlk
   unfold qhf qoW qoX
   simp -implicitDefEqProofs only[qam,qad,qae,qab,qal,qap,qac,qah,aOp,opd,qai,qa3,qaB,qag,qaZ,qbb,qba,qas,qaj,qaA,qby,qar,qaM,qaV,gcE,qa0,qaf,qaE,qat,qaD,qaF,qa5,ren,renC,qbU,qcd,qbJ,qbB,List.map_cons,List.map_nil,List.flatMap_cons,List.flatMap_nil,List.length_cons,List.length_nil,List.cons_append,List.nil_append,List.append_nil,List.getElem?_cons_zero,List.getElem?_cons_succ,List.set_cons_zero,List.set_cons_succ,List.take_succ_cons,List.take_zero,List.take_nil,List.drop_nil,List.all_nil,List.not_mem_nil,↓reduceIte,Bool.false_eq_true,and_true,not_false_eq_true,decide_true,decide_false,and_self,Nat.le_refl,reduceCtorEq,Nat.add_zero,Nat.zero_add,Nat.reduceEqDiff,Nat.reduceAdd,Nat.reduceLT,Nat.reduceLeDiff,Int.toNat_natCast,Int.natCast_nonneg,qaz,qa1,qb1,h1,h2,h3,hlk,hE,qce,qcf]
  ·cases hq
 ·intro s _
  have h0:=qbA ns.length
  unfold qhf qoW qoX
  simp -implicitDefEqProofs only[qad,qae,qab,qbk,qac,qah,aOp,opd,qai,qaB,qag,qbb,qba,qaj,gcE,qa0,qaf,qaE,qat,qaD,qaF,qa5,ren,renC,qbU,qcd,qbB,qbX,List.map_cons,List.map_nil,List.flatMap_cons,List.flatMap_nil,List.length_cons,List.length_nil,List.nil_append,List.append_nil,List.take_succ_cons,List.take_nil,List.not_mem_nil,↓reduceIte,Bool.false_eq_true,and_true,not_false_eq_true,decide_false,Nat.le_refl,reduceCtorEq,Nat.zero_add,Nat.reduceEqDiff,Nat.reduceLT,Nat.reduceLeDiff,qaz,qa1,h0,hE,qce,qcf]
def qbQ (x:CExpr):List Int:=qb3 x.op x.binds x.alts
def qqL (x:CExpr):Prop:=(x.binds++x.alts.flatMap (·.binds)).length<2 ^ 30
def qoY (e:List CExpr) (x:CExpr) (i:Nat) (ns:List Int) (s:IM Unit) (j:Nat):St:=⟨kt [5,35,36,37,50,51,52] [.map (some 0),.list (e.map qaP) none,.int .i64 e.length,.int .i64 i,.list (ns.map qaY) none,.int .i64 ns.length,.int .i64 j],
 [.map (encU s),.box [.int .i64 x.op,.int .i64 x.n,.list (x.binds.map qaY) none,.list (x.kids.map qaY) none,.list (x.alts.map qaU) none],.gone]⟩
def qoZ (e:List CExpr) (x:CExpr) (i:Nat) (v:AVal) (s:IM Unit):St:=⟨kt [4,5,35,36,37] [v,.map (some 0),.list (e.map qaP) none,.int .i64 e.length,.int .i64 i],
 [.map (encU s),.box [.int .i64 x.op,.int .i64 x.n,.list (x.binds.map qaY) none,.list (x.kids.map qaY) none,.list (x.alts.map qaU) none],.gone]⟩
theorem qqJ (e:List CExpr) (x:CExpr) (i:Nat) (ns:List Int) (hl:ns.length<2 ^ 30) (s0:IM Unit) :
  (∀ s,qcx qen ns 0 s0=.ok s→True∧qb7 L.pure (call L) 3 [5,35,36,37,50,51,52] [4,5,35,36,37] 4 qhg (qoY e x i ns s0 0)=some (.normal,qoZ e x i .junk s)) ∧
  (∀ u,qcx qen ns 0 s0=.error u→∃ R,(∃ s,R=qoZ e x i (.bool true) s)∧qb7 L.pure (call L) 3 [5,35,36,37,50,51,52] [4,5,35,36,37] 4 qhg (qoY e x i ns s0 0)=some (.ret,R)):=by
 have hdE:=qbg e
 refine qdt ns qen (fun s j=>qoY e x i ns s j) (qoZ e x i .junk) (fun _ R=>∃ s,R=qoZ e x i (.bool true) s) (fun _ _=>True) s0 trivial ?_ ?_ ?_
 ·intro j hj s s' _ hq
  obtain⟨h1,h2,h3⟩:=qbz qaY ns hl j hj
  refine⟨?_,trivial⟩
  unfold qen at hq
  split at hq
  ·cases hq
  ·rename_i hn
   injection hq with hq
   subst hq
   generalize ns[j]=n at *
   have hf:qcP n s=none:=by simpa using hn
   have hlk:=fun (h:Heap) (hr:h[0]? = some (.map (encU s)))=>qrg (fun _:Unit=>AVal.agg []) h 0 (.agg []) true n s hr
   have hup:=fun (h:Heap) (hr:h[0]? = some (.map (encU s)))=>qyE (fun _:Unit=>AVal.agg []) h 0 n () s rfl hr
   rw[hf] at hlk
   unfold qhg qoY
   simp -implicitDefEqProofs only[qam,qad,qae,qab,qal,qac,qah,aOp,opd,qai,qa3,qaB,qag,qaZ,qbb,qba,qas,qaj,qaA,qby,qcZ,qar,qaM,qaV,qa0,qaf,qaE,qat,qaD,qaF,qa5,ren,renC,qbm,qbj,qbU,qcd,qco,qbi,qaa,qaq,qbB,Option.map_some,List.map_cons,List.map_nil,List.flatMap_cons,List.flatMap_nil,List.length_cons,List.length_nil,List.cons_append,List.nil_append,List.append_nil,List.getElem?_cons_zero,List.getElem?_cons_succ,List.set_cons_zero,List.set_cons_succ,List.take_succ_cons,List.take_zero,List.take_nil,List.drop_nil,List.all_nil,List.not_mem_nil,↓reduceIte,Bool.false_eq_true,and_true,not_false_eq_true,decide_true,decide_false,and_self,Nat.le_refl,Nat.add_zero,Nat.zero_add,Nat.reduceEqDiff,Nat.reduceAdd,Nat.reduceLT,Nat.reduceLeDiff,Int.toNat_natCast,Int.natCast_nonneg,qaz,qa1,qb1,qay,qaO,h1,h2,h3,hlk,hup,hdE,qce,qcf]
 ·intro j hj s u _ hq
  obtain⟨h1,h2,h3⟩:=qbz qaY ns hl j hj
  refine⟨_,⟨s,rfl⟩,?_⟩
  unfold qen at hq
  split at hq
  ·rename_i hn
   generalize ns[j]=n at *
   obtain⟨y,hf⟩:=Option.isSome_iff_exists.1 hn
   have hlk:=fun (h:Heap) (hr:h[0]? = some (.map (encU s)))=>qrg (fun _:Unit=>AVal.agg []) h 0 (.agg []) true n s hr
   rw[hf] at hlk
   unfold qhg qoY qoZ
   simp -implicitDefEqProofs only[qam,qad,qae,qab,qal,qap,qac,qah,aOp,opd,qai,qa3,qaB,qag,qaZ,qbb,qba,qas,qaj,qaA,qby,qar,qaM,qaV,gcE,qa0,qaf,qaE,qat,qaD,qaF,qa5,ren,renC,qbm,qbj,qbU,qcd,qco,qbi,qaa,qbJ,qaq,qbB,List.map_cons,List.map_nil,List.flatMap_cons,List.flatMap_nil,List.length_cons,List.length_nil,List.cons_append,List.nil_append,List.append_nil,List.getElem?_cons_zero,List.getElem?_cons_succ,List.set_cons_zero,List.set_cons_succ,List.take_succ_cons,List.take_zero,List.take_nil,List.drop_nil,List.all_nil,List.not_mem_nil,↓reduceIte,Bool.false_eq_true,and_true,not_false_eq_true,decide_true,decide_false,and_self,Nat.le_refl,Nat.add_zero,Nat.zero_add,Nat.reduceEqDiff,Nat.reduceAdd,Nat.reduceLT,Nat.reduceLeDiff,Int.toNat_natCast,Int.natCast_nonneg,qaz,qa1,qb1,qay,qaO,h1,h2,h3,hlk,hdE,qce,qcf]
  ·cases hq
 ·intro s _
  have h0:=qbA ns.length
  unfold qhg qoY qoZ
  simp -implicitDefEqProofs only[qad,qae,qab,qbk,qac,qah,aOp,opd,qai,qaB,qag,qbb,qba,qaj,gcE,qa0,qaf,qaE,qat,qaD,qaF,qa5,ren,renC,qbm,qbj,qbU,qcd,qco,qbi,qaa,qaq,qbB,qbX,List.map_cons,List.map_nil,List.flatMap_cons,List.flatMap_nil,List.length_cons,List.length_nil,List.nil_append,List.append_nil,List.take_succ_cons,List.take_nil,List.not_mem_nil,↓reduceIte,Bool.false_eq_true,and_true,not_false_eq_true,decide_false,Nat.le_refl,Nat.zero_add,Nat.reduceEqDiff,Nat.reduceAdd,Nat.reduceLT,Nat.reduceLeDiff,qaz,qa1,qay,qaO,h0,hdE,qce,qcf]
theorem qpA (op:Int) (binds:List Int) (as:List CAlt):(qb3 op binds as).length≤(binds++as.flatMap (·.binds)).length:=by
 unfold qb3
 rw[List.length_append,List.length_append]
 split<;>simp
theorem qy9:encU []=[]:=rfl
include hL
def qo0 (e:List CExpr) (s:IM Unit) (i:Nat):St:=⟨kt [5,35,36,37] [.map (some 0),.list (e.map qaP) none,.int .i64 e.length,.int .i64 i],[.map (encU s)]⟩
def qjL (_:Nat) (s:IM Unit) (x:CExpr):Except Unit (IM Unit):=qcx qen (qbQ x) 0 s
theorem qvk (h232:L.fns 232=some fn232) (e:List CExpr) (hl:e.length<2 ^ 30) (hf:∀ x∈e,NodeFit x) (hb:∀ x∈e,qqL x) (s0:IM Unit) :
  (∀ s,qcx qjL e 0 s0=.ok s→True∧qb7 L.pure (call L) 1 [5,35,36,37] [4] 2 qhh (qo0 e s0 0)=some (.normal,⟨kt [4] [.junk],[.map (encU s)]⟩)) ∧
  (∀ u,qcx qjL e 0 s0=.error u→∃ R,(∃ s:IM Unit,R=⟨kt [4] [.bool true],[.map (encU s)]⟩)∧qb7 L.pure (call L) 1 [5,35,36,37] [4] 2 qhh (qo0 e s0 0)=some (.ret,R)):=by
 have hp:=hL.pure
 have hdE:=qbg e
 refine qdt e qjL (qo0 e) (fun s=>⟨kt [4] [.junk],[.map (encU s)]⟩) (fun _ R=>∃ s:IM Unit,R=⟨kt [4] [.bool true],[.map (encU s)]⟩) (fun _ _=>True) s0 trivial ?_ ?_ ?_
 ·intro i hi s s' _ hq
  obtain⟨h1,h2,h3⟩:=qbz qaP e hl i hi
  refine⟨?_,trivial⟩
  have hx:=hf e[i] (List.getElem_mem hi)
  have hbx:=hb e[i] (List.getElem_mem hi)
  generalize e[i]=x at *
  unfold qqL at hbx
  have hbo:=qgZ hL h232 x.op 0 x.binds (.list [] none) rfl x.alts hx.alts (by omega)
  have hle:=qpA x.op x.binds x.alts
  obtain⟨ha,_⟩:=qqJ (L:=L) e x i (qbQ x) (by unfold qbQ;omega) s
  obtain⟨_,ha⟩:=ha s' hq
  unfold qoY qoZ at ha
  unfold qbQ at ha
  simp only[Int.natCast_zero] at ha
  unfold qhh qo0
  simp -implicitDefEqProofs only[qam,qad,qae,qab,qal,qac,qah,aOp,opd,qai,qa3,qaB,qag,qaZ,qbb,qcg,qba,qas,qaj,qaA,qby,qbC,qaG,qcZ,qdf,leaf,qar,qaM,qbn,qaV,qaS,qa0,qaf,qaE,qat,qaD,qaF,qa5,ren,renC,qbm,qbj,qbU,qcd,qco,qbi,qbD,qbh,qbq,qaa,qaq,qaQ,qbB,qav,qao,Option.map_some,List.map_cons,List.map_nil,List.flatMap_cons,List.flatMap_nil,List.length_cons,List.length_nil,List.length_map,List.cons_append,List.nil_append,List.append_nil,List.getElem?_cons_zero,List.getElem?_cons_succ,List.set_cons_zero,List.set_cons_succ,List.take_succ_cons,List.take_zero,List.drop_succ_cons,List.drop_zero,List.take_nil,List.drop_nil,List.all_cons,List.all_nil,List.not_mem_nil,↓reduceIte,Bool.and_true,Bool.false_eq_true,and_true,false_and,not_false_eq_true,decide_true,decide_false,and_self,Nat.le_refl,reduceCtorEq,Nat.add_zero,Nat.zero_add,Nat.reduceEqDiff,Nat.reduceAdd,Nat.reduceLT,Nat.reduceLeDiff,Int.toNat_natCast,Int.natCast_nonneg,qaz,qa1,qbO,qca,qcC,qc0,frz,frzC,qja,qbF,qay,qaO,h1,h2,h3,hbo,ha,hdE,qce,qcf,qaN L hp,hp]
 ·intro i hi s u _ hq
  obtain⟨h1,h2,h3⟩:=qbz qaP e hl i hi
  have hx:=hf e[i] (List.getElem_mem hi)
  have hbx:=hb e[i] (List.getElem_mem hi)
  generalize e[i]=x at *
  unfold qqL at hbx
  have hbo:=qgZ hL h232 x.op 0 x.binds (.list [] none) rfl x.alts hx.alts (by omega)
  have hle:=qpA x.op x.binds x.alts
  obtain⟨_,ha⟩:=qqJ (L:=L) e x i (qbQ x) (by unfold qbQ;omega) s
  obtain⟨R,⟨t,rfl⟩,ha⟩:=ha u hq
  refine⟨_,⟨t,rfl⟩,?_⟩
  unfold qoY qoZ at ha
  unfold qbQ at ha
  simp only[Int.natCast_zero] at ha
  unfold qhh qo0
  simp -implicitDefEqProofs only[qam,qad,qae,qab,qal,qac,qah,aOp,opd,qai,qa3,qaB,qag,qaZ,qbb,qcg,qba,qas,qaj,qaA,qby,qbC,qaG,qcZ,qdf,leaf,qar,qaM,qbn,qaV,qaS,gcE,qa0,qaf,qaE,qat,qaD,qaF,qa5,ren,renC,qbm,qbj,qbU,qcd,qco,qbi,qbD,qbh,qbq,qaa,qbJ,qaq,qaQ,qbB,qav,qao,Option.map_some,List.map_cons,List.map_nil,List.flatMap_cons,List.flatMap_nil,List.length_cons,List.length_nil,List.length_map,List.cons_append,List.nil_append,List.append_nil,List.getElem?_cons_zero,List.getElem?_cons_succ,List.set_cons_zero,List.set_cons_succ,List.take_succ_cons,List.take_zero,List.drop_succ_cons,List.drop_zero,List.take_nil,List.drop_nil,List.all_cons,List.all_nil,List.not_mem_nil,↓reduceIte,Bool.and_true,Bool.false_eq_true,and_true,false_and,not_false_eq_true,decide_true,decide_false,and_self,Nat.le_refl,reduceCtorEq,Nat.add_zero,Nat.zero_add,Nat.reduceEqDiff,Nat.reduceAdd,Nat.reduceLT,Nat.reduceLeDiff,Int.toNat_natCast,Int.natCast_nonneg,qaz,qa1,qbO,qca,qcC,qc0,frz,frzC,qja,qbF,qay,qaO,h1,h2,h3,hbo,ha,hdE,qce,qcf,qaN L hp,hp]
 ·intro s _
  have h0:=qbA e.length
  unfold qhh qo0
  simp -implicitDefEqProofs only[qad,qae,qab,qbk,qac,qah,aOp,opd,qai,qaB,qag,qbb,qba,qaj,gcE,qa0,qaf,qaE,qat,qaF,qa5,ren,renC,qbU,qcd,qbX,List.map_cons,List.map_nil,List.flatMap_cons,List.flatMap_nil,List.length_cons,List.length_nil,List.append_nil,List.take_succ_cons,List.take_nil,↓reduceIte,Bool.false_eq_true,decide_false,Nat.le_refl,Nat.zero_add,Nat.reduceEqDiff,qaz,qa1,h0,hdE,qce,qcf]
def qjn (e:List CExpr) (ps:List Int):Bool :=
 match qcx qen ps 0 [] with
 | .error _=>true
 | .ok s=>(match qcx qjL e 0 s with | .error _=>true | .ok _=>false)
theorem qvl (h232:L.fns 232=some fn232) (h195:L.fns 195=some fn195) (e:List CExpr) (hl:e.length<2 ^ 30) (hf:∀ x∈e,NodeFit x) (hb:∀ x∈e,qqL x) (ps:List Int) (hps:ps.length<2 ^ 30) (h:Heap) :
  pcall L 195 [.list (e.map qaP) none,.list (ps.map qaY) none] h=some (.val (.bool (qjn e ps)),h):=by
 have hdE:=qbg e
 refine qbK hL h195 rfl ?_ h
 obtain⟨ha,hb1⟩:=qvj (L:=L) (.list (e.map qaP) none) (by rw[qaa];exact hdE) ps hps []
 unfold qjn
 cases hq:qcx qen ps 0 [] with
 | error u =>
   obtain⟨R,⟨s,rfl⟩,hl0⟩:=hb1 u hq
   unfold qoW qoX at hl0
   simp only[Int.natCast_zero,qy9] at hl0
   unfold fn195
   simp -implicitDefEqProofs only[qad,qae,qac,qah,aOp,opd,qai,qak,qaB,qag,qcg,qaT,qan,qax,qaH,qaS,qa0,qaf,qaE,qat,qaD,qaF,qa5,ren,renC,qgQ,qbU,qcd,qgF,qbf,qaa,qaq,qbB,Option.getD_some,List.map_cons,List.map_nil,List.flatMap_cons,List.flatMap_nil,List.length_cons,List.length_nil,List.length_map,List.nil_append,List.append_nil,List.getElem?_cons_zero,List.getElem?_cons_succ,List.take_succ_cons,List.take_nil,List.not_mem_nil,↓reduceIte,Bool.false_eq_true,and_true,not_false_eq_true,decide_false,Nat.le_refl,reduceCtorEq,Nat.zero_add,Nat.reduceEqDiff,Nat.reduceLT,Nat.reduceLeDiff,qaI,qay,hl0,hdE,qce,qcf]
 | ok s =>
   obtain⟨_,hl0⟩:=ha s hq
   unfold qoW qoX at hl0
   simp only[Int.natCast_zero,qy9] at hl0
   obtain⟨hc,hd⟩:=qvk hL h232 e hl hf hb s
   dsimp only
   cases hr:qcx qjL e 0 s with
   | error u =>
     obtain⟨R,⟨t,rfl⟩,hl2⟩:=hd u hr
     unfold qo0 at hl2
     simp only[Int.natCast_zero] at hl2
     unfold fn195
     simp -implicitDefEqProofs only[qad,qae,qac,qah,aOp,opd,qai,qak,qaB,qag,qcg,qaT,qan,qax,qaH,qaS,qa0,qaf,qaE,qat,qaD,qaF,qa5,ren,renC,qgQ,qbU,qcd,qgF,qbf,qaa,qaq,qbB,Option.getD_some,List.map_cons,List.map_nil,List.flatMap_cons,List.flatMap_nil,List.length_cons,List.length_nil,List.length_map,List.nil_append,List.append_nil,List.getElem?_cons_zero,List.getElem?_cons_succ,List.take_succ_cons,List.take_nil,List.not_mem_nil,↓reduceIte,Bool.false_eq_true,and_true,not_false_eq_true,decide_false,Nat.le_refl,reduceCtorEq,Nat.zero_add,Nat.reduceEqDiff,Nat.reduceLT,Nat.reduceLeDiff,qa1,qaI,qay,hl0,hl2,hdE,qce,qcf]
   | ok t =>
     obtain⟨_,hl2⟩:=hc t hr
     unfold qo0 at hl2
     simp only[Int.natCast_zero] at hl2
     unfold fn195
     simp -implicitDefEqProofs only[qad,qae,qap,qac,qah,aOp,opd,qai,qak,qaB,qag,qcg,qaT,qan,qax,qaH,qaS,qa0,qaf,qaE,qat,qaD,qaF,qa5,ren,renC,qgQ,qbU,qcd,qgF,qbf,qaa,qaq,qbB,Option.getD_some,List.map_cons,List.map_nil,List.flatMap_cons,List.flatMap_nil,List.length_cons,List.length_nil,List.length_map,List.nil_append,List.append_nil,List.getElem?_cons_zero,List.getElem?_cons_succ,List.take_succ_cons,List.take_nil,List.not_mem_nil,↓reduceIte,Bool.false_eq_true,and_true,not_false_eq_true,decide_false,Nat.le_refl,reduceCtorEq,Nat.zero_add,Nat.reduceEqDiff,Nat.reduceLT,Nat.reduceLeDiff,qa1,qaI,qay,hl0,hl2,hdE,qce,qcf]
end
section
theorem qry:∀ (e:List CExpr) (i j:Nat) (s:IM Unit),qcx qjL e i s=qcx qen (e.flatMap qbQ) j s:=by
 have hidx:∀ (ns:List Int) (i j:Nat) (s:IM Unit),qcx qen ns i s=qcx qen ns j s:=by
  intro ns
  induction ns with
  | nil=>intros;rfl
  | cons n ns ih =>
    intro i j s
    rw[qcx,qcx]
    have:qen i s n=qen j s n:=rfl
    rw[this]
    cases qen j s n with
    | error u=>rfl
    | ok t=>exact ih _ _ t
 have happ:∀ (ns ms:List Int) (i:Nat) (s:IM Unit),qcx qen (ns++ms) i s=(match qcx qen ns i s with | .ok t=>qcx qen ms 0 t | .error u=>.error u):=by
  intro ns
  induction ns with
  | nil=>intro ms i s;exact hidx ms i 0 s
  | cons n ns ih =>
    intro ms i s
    rw[List.cons_append,qcx,qcx]
    cases qen i s n with
    | error u=>rfl
    | ok t=>exact ih ms (i+1) t
 intro e
 induction e with
 | nil=>intros;rfl
 | cons x e ih =>
   intro i j s
   rw[List.flatMap_cons,happ,qcx,hidx _ j 0]
   unfold qjL
   cases qcx qen (qbQ x) 0 s with
   | error u=>rfl
   | ok t=>exact ih _ 0 t
theorem qlp (e:List CExpr):qjn e [] = !decide (e.flatMap qbQ).Nodup:=by
 unfold qjn
 have hs:=qvf (e.flatMap qbQ) 0 []
 rw[← qry e 0 0 []] at hs
 dsimp only[qcx]
 cases hq:qcx qjL e 0 [] with
 | error u =>
   have:¬ (e.flatMap qbQ).Nodup:=fun h=>hs.1 ⟨u,hq⟩ ⟨h,fun _ _=>rfl⟩
   simp[this]
 | ok t =>
   have:(e.flatMap qbQ).Nodup:=by
    refine Classical.byContradiction fun h=>?_
    obtain⟨u,hu⟩:=hs.2 fun hx=>h hx.1
    rw[hq] at hu
    cases hu
   simp[this]
end
structure CPrims (L:Lib) (sortI:List Int→List Int):Prop where
 clone:∀ (l:List Int) (h:Heap),l.length<2 ^ 30→pcall L 188 [.list (l.map qaY) none] h=some (.val (.list (l.map qaY) none),h)
 sort:∀ (l:List Int),l≠[]→l.length<2 ^ 30→call L 138 [.vec 0 l.length] [.vec (l.map qaY) 1]=some (.val (.tuple []),[.vec ((sortI l).map qaY) 1])
 sort0:∀ h:Heap,pcall L 138 [.list [] none] h=some (.val (.tuple []),h)
def CTree.none:CTree:=.mk 0 0 [] [] []
def qeR (ts:List CTree) (x:CExpr):List CTree:=ts++[.mk x.op x.n x.binds (x.kids.map fun k=>ts.getD k.toNat .none) x.alts]
def qeH (e:List CExpr):List CTree:=e.foldl qeR []
def qb2 (e:List CExpr):CTree:=(qeH e).getD (e.length-1) .none
def qfn (e:List CExpr):Prop:=∀ (i:Nat) (hi:i<e.length),∀ k∈e[i].kids,0≤k∧k<i
theorem qes (cs:List AVal) (n:Nat):wipeR (.vptr cs n)=.vptr cs n:=rfl
theorem qcH (t:CTree):∃ tc,qaW t=.vptr tc 0∧qa4 tc=true:=by
 have h:=qd2 t
 cases t
 rw[qcB] at h ⊢
 exact⟨_,rfl,h⟩
section
variable {L:Lib} (hL:Plain L)
def qlJ (x:CExpr):AObj:=.box [.int .i64 x.op,.int .i64 x.n,.list (x.binds.map qaY) none,.list (x.kids.map qaY) none,.list (x.alts.map qaU) none]
end
section
theorem qjz (e:List CExpr) (i:Nat) (hi:i<e.length):qeH (e.take (i+1))=qeR (qeH (e.take i)) e[i]:=by
 unfold qeH
 rw[List.take_succ_eq_append_getElem hi,List.foldl_append]
 rfl
theorem qhG:∀ (e:List CExpr) (ts:List CTree),(e.foldl qeR ts).length=ts.length+e.length
 | [],ts=>rfl
 | x :: e,ts => by
   rw[List.foldl_cons,qhG e]
   simp[qeR]
   omega
theorem qps (e:List CExpr):(qeH e).length=e.length:=by
 unfold qeH
 rw[qhG]
 simp
theorem qjB (e:List CExpr) (i:Nat) (hi:i≤e.length):(qeH (e.take i)).length=i:=by
 rw[qps]
 simp
 omega
end
end Go.Abs
