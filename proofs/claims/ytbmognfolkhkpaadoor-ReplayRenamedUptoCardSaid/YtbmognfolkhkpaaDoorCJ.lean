/-
  PARTS OF A PROOF, joined: an abstract machine for quiet code, its evaluation, and what the seat's functions answer on it. Conditions: none.
-/
import Derived.Test.YtbmognfolkhkpaaDoorG
set_option linter.unusedVariables false
set_option linter.unusedSimpArgs false
set_option maxRecDepth 100000
set_option maxHeartbeats 4000000
namespace Go.Abs
abbrev IM (β:Type):=List (Int × β)
section
variable {β:Type} (f:β→AVal)
def qli (m:IM β):List (AVal × AVal):=m.map fun p=>(.int .i64 p.1,f p.2)
theorem qxY (hf:∀ b,qa2 (f b)=true) (ρ:Nat→Option Nat) (m:IM β):qf2 ρ (.map (qli f m))=.map (qli f m):=by
 have h1:∀ v:AVal,qa2 v=true→ren ρ v=v:=fun v hv=>by unfold ren;rw[if_pos hv]
 unfold qf2 qli
 dsimp only
 rw[List.map_map]
 congr 1
 refine List.map_congr_left fun p _=>?_
 simp only[Function.comp,h1 _ (hf p.2),h1 (.int .i64 p.1) rfl]
theorem qxP (hf:∀ b,qa2 (f b)=true) (m:IM β):qox (.map (qli f m))=[]:=by
 have h1:∀ v:AVal,qa2 v=true→qbW v=[]:=fun v hv=>by unfold qbW;rw[if_pos hv]
 unfold qox qli
 dsimp only
 induction m with
 | nil=>rfl
 | cons p m ih =>
   rw[List.map_cons,List.flatMap_cons,h1 _ (hf p.2),h1 (.int .i64 p.1) rfl]
   exact ih
def qce (v:Int):IM β→Option β
 | []=>none
 | p::m=>if v=p.1 then some p.2 else qce v m
def qob (v:Int) (b:β) (m:IM β):IM β:=m.map fun p=>if v=p.1 then (v,b) else p
def qmw (v:Int) (b:β):IM β→IM β
 | []=>[(v,b)]
 | p::m=>if v<p.1 then (v,b)::p::m else p::qmw v b m
def qlV (v:Int) (b:β) (m:IM β):IM β:=if (qce v m).isSome=true then qob v b m else qmw v b m
theorem qi1 {v:Int} {b:β}:∀ {m:IM β} (i:Nat),qce v m=some b→∃ j,qbT (.int .i64 v) (qli f m) i=some (some (j,f b))
 | [],i,h=>by cases h
 | p :: m,i,h => by
   unfold qce at h
   by_cases hv:v=p.1
   ·rw[if_pos hv] at h
    injection h with h
    subst h
    exact⟨i,by simp[qli,qbT,qdR,hv]⟩
   ·rw[if_neg hv] at h
    obtain⟨j,hj⟩:=qi1 (i+1) h
    have hb:(v==p.1)=false:=by simpa using hv
    exact⟨j,by rw[← hj];simp[qli,qbT,qdR,hb]⟩
theorem qi0 {v:Int}:∀ {m:IM β} (i:Nat),qce v m=none→qbT (.int .i64 v) (qli f m) i=some none
 | [],i,h=>rfl
 | p :: m,i,h => by
   unfold qce at h
   by_cases hv:v=p.1
   ·rw[if_pos hv] at h
    cases h
   ·rw[if_neg hv] at h
    have hb:(v==p.1)=false:=by simpa using hv
    rw[← qi0 (i+1) h]
    simp[qli,qbT,qdR,hb]
theorem qpE (v:Int) (b:β):∀ m:IM β,qxw (.int .i64 v) (f b) (qli f m)=qli f (qmw v b m)
 | []=>rfl
 | p :: m => by
   unfold qmw qli
   rw[List.map_cons,qxw]
   simp only[qxR,decide_eq_true_eq]
   by_cases h:v<p.1
   ·rw[if_pos h,if_pos h]
    rfl
   ·rw[if_neg h,if_neg h,List.map_cons]
    exact congrArg _ (qpE v b m)
theorem qtA (v:Int) (b:β) (m:IM β):qxk (.int .i64 v) (f b) (qli f m)=qli f (qob v b m):=by
 unfold qxk qli qob
 rw[List.map_map,List.map_map]
 refine List.map_congr_left fun p _=>?_
 simp only[Function.comp,qdR,if_true,Option.some.injEq,beq_iff_eq]
 by_cases h:v=p.1
 ·rw[if_pos h,if_pos h]
 ·rw[if_neg h,if_neg h]
theorem qoY (h:Heap) (r:Nat) (zero:AVal) (ok:Bool) (v:Int) (m:IM β) (hr:h[r]? = some (.map (qli f m))) :
  qiR h .int zero ok (.map (some r)) (.int .i64 v)=some (match qce v m with | some b=>(if ok=true then .tuple [f b,.bool true] else f b) | none=>(if ok=true then .tuple [zero,.bool false] else zero)):=by
 unfold qiR qnL
 rw[if_pos (show qdS .int (.int .i64 v)=true from rfl)]
 dsimp only
 rw[hr]
 dsimp only
 cases hq:qce v m with
 | some b =>
   obtain⟨j,hj⟩:=qi1 f 0 hq
   rw[hj]
 | none=>rw[qi0 f 0 hq]
theorem qyg (h:Heap) (r:Nat) (v:Int) (b:β) (m:IM β) (hw:wipe (f b)=f b) (hr:h[r]? = some (.map (qli f m))) :
  qeY h .int (.map (some r)) (.int .i64 v) (f b)=some (h.set r (.map (qli f (qlV v b m)))):=by
 unfold qeY qlV
 dsimp only
 rw[hr]
 dsimp only
 rw[if_pos (show qdS .int (.int .i64 v)=true from rfl),hw]
 cases hq:qce v m with
 | some c =>
   obtain⟨j,hj⟩:=qi1 f 0 hq
   rw[hj]
   simp only[Option.isSome_some,if_true,qtA]
 | none =>
   rw[qi0 f 0 hq]
   simp only[Option.isSome_none,Bool.false_eq_true,if_false,qpE]
theorem qnh (v w:Int) (b:β):∀ m:IM β,qce w m=none→qce v (qmw w b m)=if v=w then some b else qce v m
 | [],_=>by simp[qmw,qce]
 | p :: m,h => by
   unfold qce at h
   have hw:¬ w=p.1:=by
    intro e
    rw[if_pos e] at h
    cases h
   rw[if_neg hw] at h
   have ih:=qnh v w b m h
   unfold qmw
   by_cases hlt:w<p.1
   ·rw[if_pos hlt]
    simp only[qce]
   ·rw[if_neg hlt]
    simp only[qce]
    rw[ih]
    by_cases h1:v=p.1
    ·have:¬ v=w:=by omega
     rw[if_pos h1,if_neg this,if_pos h1]
    ·rw[if_neg h1,if_neg h1]
theorem qkv (v w:Int) (b:β):∀ m:IM β,(qce w m).isSome=true→qce v (qob w b m)=if v=w then some b else qce v m
 | [],h=>by cases h
 | p :: m,h => by
   unfold qob
   rw[List.map_cons]
   by_cases hw:w=p.1
   ·rw[if_pos hw]
    simp only[qce]
    by_cases hv:v=w
    ·rw[if_pos hv,if_pos hv]
    ·rw[if_neg hv,if_neg hv,if_neg (by omega)]
     by_cases hs:(qce w m).isSome=true
     ·have:=qkv v w b m hs
      unfold qob at this
      rw[this,if_neg hv]
     ·have:m.map (fun p=>if w=p.1 then (w,b) else p)=m:=by
       have hn:∀ q∈m,¬ w=q.1:=by
        clear h
        induction m with
        | nil=>simp
        | cons q m ih =>
          intro x hx
          unfold qce at hs
          by_cases hq:w=q.1
          ·rw[if_pos hq] at hs;exact absurd rfl hs
          ·rw[if_neg hq] at hs
           rcases List.mem_cons.1 hx with rfl | hx
           ·exact hq
           ·exact ih hs x hx
       have h2:m.map (fun p=>if w=p.1 then (w,b) else p)=m.map id:=List.map_congr_left fun q hq=>if_neg (hn q hq)
       rw[h2,List.map_id]
      rw[this]
   ·rw[if_neg hw]
    unfold qce at h
    rw[if_neg hw] at h
    have:=qkv v w b m h
    unfold qob at this
    simp only[qce]
    rw[this]
    by_cases h1:v=p.1
    ·rw[if_pos h1,if_neg (by omega),if_pos h1]
    ·rw[if_neg h1,if_neg h1]
theorem qe8 (v w:Int) (b:β) (m:IM β):qce v (qlV w b m)=if v=w then some b else qce v m:=by
 unfold qlV
 by_cases h:(qce w m).isSome=true
 ·rw[if_pos h,qkv v w b m h]
 ·rw[if_neg h,qnh v w b m (by simpa using h)]
end
abbrev encU:IM Unit→List (AVal × AVal):=qli fun _=>.agg []
def qeo (_:Nat) (s:IM Unit) (n:Int):Except Unit (IM Unit):=if (qce n s).isSome=true then .error () else .ok (qlV n () s)
theorem quR (ns:List Int):∀ (i:Nat) (s:IM Unit),(∃ u,qcr qeo ns i s=.error u)↔¬ (ns.Nodup∧∀ n∈ns,qce n s=none):=by
 induction ns with
 | nil=>intro i s;simp[qcr]
 | cons n ns ih =>
   intro i s
   rw[qcr]
   unfold qeo
   by_cases h:(qce n s).isSome=true
   ·rw[if_pos h]
    simp only[List.forall_mem_cons]
    constructor
    ·intro _ hx
     rw[hx.2.1] at h
     cases h
    ·intro _;simp
   ·rw[if_neg h]
    dsimp only
    have h':qce n s=none:=by simpa using h
    have:=ih (i+1) (qlV n () s)
    unfold qeo at this
    rw[this]
    simp only[qe8,List.nodup_cons,List.forall_mem_cons]
    apply not_congr
    constructor
    ·rintro ⟨h1,h2⟩
     refine⟨⟨?_,h1⟩,h',?_⟩
     ·intro hm
      have:=h2 n hm
      rw[if_pos rfl] at this
      cases this
     ·intro m hm
      have:=h2 m hm
      by_cases e:m=n
      ·rw[if_pos e] at this;cases this
      ·rwa [if_neg e] at this
    ·rintro ⟨⟨h1,h2⟩,_,h4⟩
     refine⟨h2,fun m hm=>?_⟩
     rw[if_neg (fun e:m=n=>h1 (e ▸ hm))]
     exact h4 m hm
theorem qb7 (s:IM Unit):qox (.map (encU s))=[]:=qxP _ (fun _=>rfl) s
theorem qb8 (ρ:Nat→Option Nat) (s:IM Unit):qf2 ρ (.map (encU s))=.map (encU s):=qxY _ (fun _=>rfl) ρ s
section
variable {L:Lib} (hL:Plain L)
def qoq (E:AVal) (s:IM Unit) (ns:List Int) (j:Nat):St:=⟨kt [0,5,18,19,20] [E,.map (some 0),.list (ns.map qaP) none,.int .i64 ns.length,.int .i64 j],[.map (encU s)]⟩
def qor (E:AVal) (v:AVal) (s:IM Unit):St:=⟨kt [0,4,5] [E,v,.map (some 0)],[.map (encU s)]⟩
theorem quW (E:AVal) (hE:qa2 E=true) (ns:List Int) (hl:ns.length<2 ^ 30) (s0:IM Unit) :
  (∀ s,qcr qeo ns 0 s0=.ok s→True∧qcg L.pure (call L) 1 [0,5,18,19,20] [0,4,5] 0 qhm (qoq E s0 ns 0)=some (.normal,qor E .junk s)) ∧
  (∀ u,qcr qeo ns 0 s0=.error u→∃ R,(∃ s,R=qor E (.bool true) s)∧qcg L.pure (call L) 1 [0,5,18,19,20] [0,4,5] 0 qhm (qoq E s0 ns 0)=some (.ret,R)):=by
 refine qds ns qeo (fun s j=>qoq E s ns j) (qor E .junk) (fun _ R=>∃ s,R=qor E (.bool true) s) (fun _ _=>True) s0 trivial ?_ ?_ ?_
 ·intro i hi s s' _ hq
  obtain⟨h1,h2,h3⟩:=qbE qaP ns hl i hi
  refine⟨?_,trivial⟩
  unfold qeo at hq
  split at hq
  ·cases hq
  ·rename_i hn
   injection hq with hq
   subst hq
   generalize ns[i]=n at *
   have hf:qce n s=none:=by simpa using hn
   have hlk:=fun (h:Heap) (hr:h[0]? = some (.map (encU s)))=>qoY (fun _:Unit=>AVal.agg []) h 0 (.agg []) true n s hr
   have hup:=fun (h:Heap) (hr:h[0]? = some (.map (encU s)))=>qyg (fun _:Unit=>AVal.agg []) h 0 n () s rfl hr
   rw[hf] at hlk
   unfold qhm qoq
   simp -implicitDefEqProofs only[qaq,qad,qae,qaf,qao,qab,qah,aOp,opd,qai,qa1,qav,qag,qaV,qbh,qbg,qaE,qaj,qaF,qbC,qeA,qaw,qaW,qaT,qaS,qac,qay,qam,qat,qaz,qaU,ren,renC,qbW,qca,qaa,qal,qbv,Option.map_some,List.map_cons,List.map_nil,List.flatMap_cons,List.flatMap_nil,List.length_cons,List.length_nil,List.cons_append,List.nil_append,List.append_nil,List.getElem?_cons_zero,List.getElem?_cons_succ,List.set_cons_zero,List.set_cons_succ,List.take_succ_cons,List.take_zero,List.take_nil,List.drop_nil,List.all_nil,List.not_mem_nil,↓reduceIte,Bool.false_eq_true,and_true,not_false_eq_true,decide_true,decide_false,and_self,Nat.le_refl,reduceCtorEq,Nat.add_zero,Nat.zero_add,Nat.reduceEqDiff,Nat.reduceAdd,Nat.reduceLT,Nat.reduceLeDiff,Int.toNat_natCast,Int.natCast_nonneg,qau,qaQ,qb0,qar,h1,h2,h3,hlk,hup,hE,qb7,qb8]
 ·intro i hi s u _ hq
  obtain⟨h1,h2,h3⟩:=qbE qaP ns hl i hi
  refine⟨_,⟨s,rfl⟩,?_⟩
  unfold qeo at hq
  split at hq
  ·rename_i hn
   generalize ns[i]=n at *
   obtain⟨x,hf⟩:=Option.isSome_iff_exists.1 hn
   have hlk:=fun (h:Heap) (hr:h[0]? = some (.map (encU s)))=>qoY (fun _:Unit=>AVal.agg []) h 0 (.agg []) true n s hr
   rw[hf] at hlk
   unfold qhm qoq qor
   simp -implicitDefEqProofs only[qaq,qad,qae,qaf,qao,qax,qab,qah,aOp,opd,qai,qa1,qav,qag,qaV,qbh,qbg,qaE,qaj,qaF,qbC,qaw,qaW,qaT,gcE,qaS,qac,qay,qam,qat,qaz,qaU,ren,renC,qbW,qca,qbI,qbv,List.map_cons,List.map_nil,List.flatMap_cons,List.flatMap_nil,List.length_cons,List.length_nil,List.cons_append,List.nil_append,List.append_nil,List.getElem?_cons_zero,List.getElem?_cons_succ,List.set_cons_zero,List.set_cons_succ,List.take_succ_cons,List.take_zero,List.take_nil,List.drop_nil,List.all_nil,List.not_mem_nil,↓reduceIte,Bool.false_eq_true,and_true,not_false_eq_true,decide_true,decide_false,and_self,Nat.le_refl,reduceCtorEq,Nat.add_zero,Nat.zero_add,Nat.reduceEqDiff,Nat.reduceAdd,Nat.reduceLT,Nat.reduceLeDiff,Int.toNat_natCast,Int.natCast_nonneg,qau,qaQ,qb0,h1,h2,h3,hlk,hE,qb7,qb8]
  ·cases hq
 ·intro s _
  have h0:=qbF ns.length
  unfold qhm qoq qor
  simp -implicitDefEqProofs only[qad,qae,qaf,qbl,qab,qah,aOp,opd,qai,qav,qag,qbh,qbg,qaj,gcE,qaS,qac,qay,qam,qat,qaz,qaU,ren,renC,qbW,qca,qbv,qb1,List.map_cons,List.map_nil,List.flatMap_cons,List.flatMap_nil,List.length_cons,List.length_nil,List.nil_append,List.append_nil,List.take_succ_cons,List.take_nil,List.not_mem_nil,↓reduceIte,Bool.false_eq_true,and_true,not_false_eq_true,decide_false,Nat.le_refl,reduceCtorEq,Nat.zero_add,Nat.reduceEqDiff,Nat.reduceLT,Nat.reduceLeDiff,qau,qaQ,h0,hE,qb7,qb8]
def qbL (x:CExpr):List Int:=qbt x.op x.binds x.alts
def qqd (x:CExpr):Prop:=(x.binds++x.alts.flatMap (·.binds)).length<2 ^ 30
def qos (e:List CExpr) (x:CExpr) (i:Nat) (ns:List Int) (s:IM Unit) (j:Nat):St:=⟨kt [5,35,36,37,50,51,52] [.map (some 0),.list (e.map qaH) none,.int .i64 e.length,.int .i64 i,.list (ns.map qaP) none,.int .i64 ns.length,.int .i64 j],
 [.map (encU s),.box [.int .i64 x.op,.int .i64 x.n,.list (x.binds.map qaP) none,.list (x.kids.map qaP) none,.list (x.alts.map qaM) none],.gone]⟩
def qot (e:List CExpr) (x:CExpr) (i:Nat) (v:AVal) (s:IM Unit):St:=⟨kt [4,5,35,36,37] [v,.map (some 0),.list (e.map qaH) none,.int .i64 e.length,.int .i64 i],
 [.map (encU s),.box [.int .i64 x.op,.int .i64 x.n,.list (x.binds.map qaP) none,.list (x.kids.map qaP) none,.list (x.alts.map qaM) none],.gone]⟩
theorem qqc (e:List CExpr) (x:CExpr) (i:Nat) (ns:List Int) (hl:ns.length<2 ^ 30) (s0:IM Unit) :
  (∀ s,qcr qeo ns 0 s0=.ok s→True∧qcg L.pure (call L) 3 [5,35,36,37,50,51,52] [4,5,35,36,37] 4 qhn (qos e x i ns s0 0)=some (.normal,qot e x i .junk s)) ∧
  (∀ u,qcr qeo ns 0 s0=.error u→∃ R,(∃ s,R=qot e x i (.bool true) s)∧qcg L.pure (call L) 3 [5,35,36,37,50,51,52] [4,5,35,36,37] 4 qhn (qos e x i ns s0 0)=some (.ret,R)):=by
 have hdE:=qa3 e
 refine qds ns qeo (fun s j=>qos e x i ns s j) (qot e x i .junk) (fun _ R=>∃ s,R=qot e x i (.bool true) s) (fun _ _=>True) s0 trivial ?_ ?_ ?_
 ·intro j hj s s' _ hq
  obtain⟨h1,h2,h3⟩:=qbE qaP ns hl j hj
  refine⟨?_,trivial⟩
  unfold qeo at hq
  split at hq
  ·cases hq
  ·rename_i hn
   injection hq with hq
   subst hq
   generalize ns[j]=n at *
   have hf:qce n s=none:=by simpa using hn
   have hlk:=fun (h:Heap) (hr:h[0]? = some (.map (encU s)))=>qoY (fun _:Unit=>AVal.agg []) h 0 (.agg []) true n s hr
   have hup:=fun (h:Heap) (hr:h[0]? = some (.map (encU s)))=>qyg (fun _:Unit=>AVal.agg []) h 0 n () s rfl hr
   rw[hf] at hlk
   unfold qhn qos
   simp -implicitDefEqProofs only[qaq,qad,qae,qaf,qao,qab,qah,aOp,opd,qai,qa1,qav,qag,qaV,qbh,qbg,qaE,qaj,qaF,qbC,qeA,qaw,qaW,qaT,qaS,qac,qay,qam,qat,qaz,qaU,ren,renC,qbp,qa9,qbW,qca,qcf,qa8,qaa,qal,qbv,Option.map_some,List.map_cons,List.map_nil,List.flatMap_cons,List.flatMap_nil,List.length_cons,List.length_nil,List.cons_append,List.nil_append,List.append_nil,List.getElem?_cons_zero,List.getElem?_cons_succ,List.set_cons_zero,List.set_cons_succ,List.take_succ_cons,List.take_zero,List.take_nil,List.drop_nil,List.all_nil,List.not_mem_nil,↓reduceIte,Bool.false_eq_true,and_true,not_false_eq_true,decide_true,decide_false,and_self,Nat.le_refl,Nat.add_zero,Nat.zero_add,Nat.reduceEqDiff,Nat.reduceAdd,Nat.reduceLT,Nat.reduceLeDiff,Int.toNat_natCast,Int.natCast_nonneg,qau,qaQ,qb0,qar,qaG,h1,h2,h3,hlk,hup,hdE,qb7,qb8]
 ·intro j hj s u _ hq
  obtain⟨h1,h2,h3⟩:=qbE qaP ns hl j hj
  refine⟨_,⟨s,rfl⟩,?_⟩
  unfold qeo at hq
  split at hq
  ·rename_i hn
   generalize ns[j]=n at *
   obtain⟨y,hf⟩:=Option.isSome_iff_exists.1 hn
   have hlk:=fun (h:Heap) (hr:h[0]? = some (.map (encU s)))=>qoY (fun _:Unit=>AVal.agg []) h 0 (.agg []) true n s hr
   rw[hf] at hlk
   unfold qhn qos qot
   simp -implicitDefEqProofs only[qaq,qad,qae,qaf,qao,qax,qab,qah,aOp,opd,qai,qa1,qav,qag,qaV,qbh,qbg,qaE,qaj,qaF,qbC,qaw,qaW,qaT,gcE,qaS,qac,qay,qam,qat,qaz,qaU,ren,renC,qbp,qa9,qbW,qca,qcf,qa8,qaa,qbI,qal,qbv,List.map_cons,List.map_nil,List.flatMap_cons,List.flatMap_nil,List.length_cons,List.length_nil,List.cons_append,List.nil_append,List.append_nil,List.getElem?_cons_zero,List.getElem?_cons_succ,List.set_cons_zero,List.set_cons_succ,List.take_succ_cons,List.take_zero,List.take_nil,List.drop_nil,List.all_nil,List.not_mem_nil,↓reduceIte,Bool.false_eq_true,and_true,not_false_eq_true,decide_true,decide_false,and_self,Nat.le_refl,Nat.add_zero,Nat.zero_add,Nat.reduceEqDiff,Nat.reduceAdd,Nat.reduceLT,Nat.reduceLeDiff,Int.toNat_natCast,Int.natCast_nonneg,qau,qaQ,qb0,qar,qaG,h1,h2,h3,hlk,hdE,qb7,qb8]
  ·cases hq
 ·intro s _
  have h0:=qbF ns.length
  unfold qhn qos qot
  simp -implicitDefEqProofs only[qad,qae,qaf,qbl,qab,qah,aOp,opd,qai,qav,qag,qbh,qbg,qaj,gcE,qaS,qac,qay,qam,qat,qaz,qaU,ren,renC,qbp,qa9,qbW,qca,qcf,qa8,qaa,qal,qbv,qb1,List.map_cons,List.map_nil,List.flatMap_cons,List.flatMap_nil,List.length_cons,List.length_nil,List.nil_append,List.append_nil,List.take_succ_cons,List.take_nil,List.not_mem_nil,↓reduceIte,Bool.false_eq_true,and_true,not_false_eq_true,decide_false,Nat.le_refl,Nat.zero_add,Nat.reduceEqDiff,Nat.reduceAdd,Nat.reduceLT,Nat.reduceLeDiff,qau,qaQ,qar,qaG,h0,hdE,qb7,qb8]
theorem qmE (op:Int) (binds:List Int) (as:List CAlt):(qbt op binds as).length≤(binds++as.flatMap (·.binds)).length:=by
 unfold qbt
 rw[List.length_append,List.length_append]
 split<;>simp
theorem qyJ:encU []=[]:=rfl
include hL
def qou (e:List CExpr) (s:IM Unit) (i:Nat):St:=⟨kt [5,35,36,37] [.map (some 0),.list (e.map qaH) none,.int .i64 e.length,.int .i64 i],[.map (encU s)]⟩
def qjE (_:Nat) (s:IM Unit) (x:CExpr):Except Unit (IM Unit):=qcr qeo (qbL x) 0 s
theorem quX (h232:L.fns 232=some fn232) (e:List CExpr) (hl:e.length<2 ^ 30) (hf:∀ x∈e,NodeFit x) (hb:∀ x∈e,qqd x) (s0:IM Unit) :
  (∀ s,qcr qjE e 0 s0=.ok s→True∧qcg L.pure (call L) 1 [5,35,36,37] [4] 2 qho (qou e s0 0)=some (.normal,⟨kt [4] [.junk],[.map (encU s)]⟩)) ∧
  (∀ u,qcr qjE e 0 s0=.error u→∃ R,(∃ s:IM Unit,R=⟨kt [4] [.bool true],[.map (encU s)]⟩)∧qcg L.pure (call L) 1 [5,35,36,37] [4] 2 qho (qou e s0 0)=some (.ret,R)):=by
 have hp:=hL.pure
 have hdE:=qa3 e
 refine qds e qjE (qou e) (fun s=>⟨kt [4] [.junk],[.map (encU s)]⟩) (fun _ R=>∃ s:IM Unit,R=⟨kt [4] [.bool true],[.map (encU s)]⟩) (fun _ _=>True) s0 trivial ?_ ?_ ?_
 ·intro i hi s s' _ hq
  obtain⟨h1,h2,h3⟩:=qbE qaH e hl i hi
  refine⟨?_,trivial⟩
  have hx:=hf e[i] (List.getElem_mem hi)
  have hbx:=hb e[i] (List.getElem_mem hi)
  generalize e[i]=x at *
  unfold qqd at hbx
  have hbo:=qg8 hL h232 x.op 0 x.binds (.list [] none) rfl x.alts hx.alts (by omega)
  have hle:=qmE x.op x.binds x.alts
  obtain⟨ha,_⟩:=qqc (L:=L) e x i (qbL x) (by unfold qbL;omega) s
  obtain⟨_,ha⟩:=ha s' hq
  unfold qos qot at ha
  unfold qbL at ha
  simp only[Int.natCast_zero] at ha
  unfold qho qou
  simp -implicitDefEqProofs only[qaq,qad,qae,qaf,qao,qab,qah,aOp,opd,qai,qa1,qav,qag,qaV,qbh,qco,qbg,qaE,qaj,qaF,qbC,qbG,qaK,qeA,qfb,leaf,qaw,qaW,qbu,qaT,qaL,qaS,qac,qay,qam,qat,qaz,qaU,ren,renC,qbp,qa9,qbW,qca,qcf,qa8,qbS,qba,qbs,qaa,qal,qaN,qbv,qap,qak,Option.map_some,List.map_cons,List.map_nil,List.flatMap_cons,List.flatMap_nil,List.length_cons,List.length_nil,List.length_map,List.cons_append,List.nil_append,List.append_nil,List.getElem?_cons_zero,List.getElem?_cons_succ,List.set_cons_zero,List.set_cons_succ,List.take_succ_cons,List.take_zero,List.drop_succ_cons,List.drop_zero,List.take_nil,List.drop_nil,List.all_cons,List.all_nil,List.not_mem_nil,↓reduceIte,Bool.and_true,Bool.false_eq_true,and_true,false_and,not_false_eq_true,decide_true,decide_false,and_self,Nat.le_refl,reduceCtorEq,Nat.add_zero,Nat.zero_add,Nat.reduceEqDiff,Nat.reduceAdd,Nat.reduceLT,Nat.reduceLeDiff,Int.toNat_natCast,Int.natCast_nonneg,qau,qaQ,qb6,qck,qcJ,qdp,frz,frzC,qjV,qbB,qar,qaG,h1,h2,h3,hbo,ha,hdE,qb7,qb8,qaJ L hp,hp]
 ·intro i hi s u _ hq
  obtain⟨h1,h2,h3⟩:=qbE qaH e hl i hi
  have hx:=hf e[i] (List.getElem_mem hi)
  have hbx:=hb e[i] (List.getElem_mem hi)
  generalize e[i]=x at *
  unfold qqd at hbx
  have hbo:=qg8 hL h232 x.op 0 x.binds (.list [] none) rfl x.alts hx.alts (by omega)
  have hle:=qmE x.op x.binds x.alts
  obtain⟨_,ha⟩:=qqc (L:=L) e x i (qbL x) (by unfold qbL;omega) s
  obtain⟨R,⟨t,rfl⟩,ha⟩:=ha u hq
  refine⟨_,⟨t,rfl⟩,?_⟩
  unfold qos qot at ha
  unfold qbL at ha
  simp only[Int.natCast_zero] at ha
  unfold qho qou
  simp -implicitDefEqProofs only[qaq,qad,qae,qaf,qao,qab,qah,aOp,opd,qai,qa1,qav,qag,qaV,qbh,qco,qbg,qaE,qaj,qaF,qbC,qbG,qaK,qeA,qfb,leaf,qaw,qaW,qbu,qaT,qaL,gcE,qaS,qac,qay,qam,qat,qaz,qaU,ren,renC,qbp,qa9,qbW,qca,qcf,qa8,qbS,qba,qbs,qaa,qbI,qal,qaN,qbv,qap,qak,Option.map_some,List.map_cons,List.map_nil,List.flatMap_cons,List.flatMap_nil,List.length_cons,List.length_nil,List.length_map,List.cons_append,List.nil_append,List.append_nil,List.getElem?_cons_zero,List.getElem?_cons_succ,List.set_cons_zero,List.set_cons_succ,List.take_succ_cons,List.take_zero,List.drop_succ_cons,List.drop_zero,List.take_nil,List.drop_nil,List.all_cons,List.all_nil,List.not_mem_nil,↓reduceIte,Bool.and_true,Bool.false_eq_true,and_true,false_and,not_false_eq_true,decide_true,decide_false,and_self,Nat.le_refl,reduceCtorEq,Nat.add_zero,Nat.zero_add,Nat.reduceEqDiff,Nat.reduceAdd,Nat.reduceLT,Nat.reduceLeDiff,Int.toNat_natCast,Int.natCast_nonneg,qau,qaQ,qb6,qck,qcJ,qdp,frz,frzC,qjV,qbB,qar,qaG,h1,h2,h3,hbo,ha,hdE,qb7,qb8,qaJ L hp,hp]
 ·intro s _
  have h0:=qbF e.length
  unfold qho qou
  simp -implicitDefEqProofs only[qad,qae,qaf,qbl,qab,qah,aOp,opd,qai,qav,qag,qbh,qbg,qaj,gcE,qaS,qac,qay,qam,qaz,qaU,ren,renC,qbW,qca,qb1,List.map_cons,List.map_nil,List.flatMap_cons,List.flatMap_nil,List.length_cons,List.length_nil,List.append_nil,List.take_succ_cons,List.take_nil,↓reduceIte,Bool.false_eq_true,decide_false,Nat.le_refl,Nat.zero_add,Nat.reduceEqDiff,qau,qaQ,h0,hdE,qb7,qb8]
def qjh (e:List CExpr) (ps:List Int):Bool :=
 match qcr qeo ps 0 [] with
 | .error _=>true
 | .ok s=>(match qcr qjE e 0 s with | .error _=>true | .ok _=>false)
theorem quY (h232:L.fns 232=some fn232) (h195:L.fns 195=some fn195) (e:List CExpr) (hl:e.length<2 ^ 30) (hf:∀ x∈e,NodeFit x) (hb:∀ x∈e,qqd x) (ps:List Int) (hps:ps.length<2 ^ 30) (h:Heap) :
  pcall L 195 [.list (e.map qaH) none,.list (ps.map qaP) none] h=some (.val (.bool (qjh e ps)),h):=by
 have hdE:=qa3 e
 refine qbH hL h195 rfl ?_ h
 obtain⟨ha,hb1⟩:=quW (L:=L) (.list (e.map qaH) none) (by rw[qaa];exact hdE) ps hps []
 unfold qjh
 cases hq:qcr qeo ps 0 [] with
 | error u =>
   obtain⟨R,⟨s,rfl⟩,hl0⟩:=hb1 u hq
   unfold qoq qor at hl0
   simp only[Int.natCast_zero,qyJ] at hl0
   unfold fn195
   simp -implicitDefEqProofs only[qad,qae,qab,qah,aOp,opd,qai,qan,qav,qag,qco,qaR,qas,qaB,qaI,qaL,qaS,qac,qay,qam,qat,qaz,qaU,ren,renC,qg1,qbW,qca,qgR,qbf,qaa,qal,qbv,Option.getD_some,List.map_cons,List.map_nil,List.flatMap_cons,List.flatMap_nil,List.length_cons,List.length_nil,List.length_map,List.nil_append,List.append_nil,List.getElem?_cons_zero,List.getElem?_cons_succ,List.take_succ_cons,List.take_nil,List.not_mem_nil,↓reduceIte,Bool.false_eq_true,and_true,not_false_eq_true,decide_false,Nat.le_refl,reduceCtorEq,Nat.zero_add,Nat.reduceEqDiff,Nat.reduceLT,Nat.reduceLeDiff,qaD,qar,hl0,hdE,qb7,qb8]
 | ok s =>
   obtain⟨_,hl0⟩:=ha s hq
   unfold qoq qor at hl0
   simp only[Int.natCast_zero,qyJ] at hl0
   obtain⟨hc,hd⟩:=quX hL h232 e hl hf hb s
   dsimp only
   cases hr:qcr qjE e 0 s with
   | error u =>
     obtain⟨R,⟨t,rfl⟩,hl2⟩:=hd u hr
     unfold qou at hl2
     simp only[Int.natCast_zero] at hl2
     unfold fn195
     simp -implicitDefEqProofs only[qad,qae,qab,qah,aOp,opd,qai,qan,qav,qag,qco,qaR,qas,qaB,qaI,qaL,qaS,qac,qay,qam,qat,qaz,qaU,ren,renC,qg1,qbW,qca,qgR,qbf,qaa,qal,qbv,Option.getD_some,List.map_cons,List.map_nil,List.flatMap_cons,List.flatMap_nil,List.length_cons,List.length_nil,List.length_map,List.nil_append,List.append_nil,List.getElem?_cons_zero,List.getElem?_cons_succ,List.take_succ_cons,List.take_nil,List.not_mem_nil,↓reduceIte,Bool.false_eq_true,and_true,not_false_eq_true,decide_false,Nat.le_refl,reduceCtorEq,Nat.zero_add,Nat.reduceEqDiff,Nat.reduceLT,Nat.reduceLeDiff,qaQ,qaD,qar,hl0,hl2,hdE,qb7,qb8]
   | ok t =>
     obtain⟨_,hl2⟩:=hc t hr
     unfold qou at hl2
     simp only[Int.natCast_zero] at hl2
     unfold fn195
     simp -implicitDefEqProofs only[qad,qae,qax,qab,qah,aOp,opd,qai,qan,qav,qag,qco,qaR,qas,qaB,qaI,qaL,qaS,qac,qay,qam,qat,qaz,qaU,ren,renC,qg1,qbW,qca,qgR,qbf,qaa,qal,qbv,Option.getD_some,List.map_cons,List.map_nil,List.flatMap_cons,List.flatMap_nil,List.length_cons,List.length_nil,List.length_map,List.nil_append,List.append_nil,List.getElem?_cons_zero,List.getElem?_cons_succ,List.take_succ_cons,List.take_nil,List.not_mem_nil,↓reduceIte,Bool.false_eq_true,and_true,not_false_eq_true,decide_false,Nat.le_refl,reduceCtorEq,Nat.zero_add,Nat.reduceEqDiff,Nat.reduceLT,Nat.reduceLeDiff,qaQ,qaD,qar,hl0,hl2,hdE,qb7,qb8]
end
section
theorem qq0:∀ (e:List CExpr) (i j:Nat) (s:IM Unit),qcr qjE e i s=qcr qeo (e.flatMap qbL) j s:=by
 have hidx:∀ (ns:List Int) (i j:Nat) (s:IM Unit),qcr qeo ns i s=qcr qeo ns j s:=by
  intro ns
  induction ns with
  | nil=>intros;rfl
  | cons n ns ih =>
    intro i j s
    rw[qcr,qcr]
    have:qeo i s n=qeo j s n:=rfl
    rw[this]
    cases qeo j s n with
    | error u=>rfl
    | ok t=>exact ih _ _ t
 have happ:∀ (ns ms:List Int) (i:Nat) (s:IM Unit),qcr qeo (ns++ms) i s=(match qcr qeo ns i s with | .ok t=>qcr qeo ms 0 t | .error u=>.error u):=by
  intro ns
  induction ns with
  | nil=>intro ms i s;exact hidx ms i 0 s
  | cons n ns ih =>
    intro ms i s
    rw[List.cons_append,qcr,qcr]
    cases qeo i s n with
    | error u=>rfl
    | ok t=>exact ih ms (i+1) t
 intro e
 induction e with
 | nil=>intros;rfl
 | cons x e ih =>
   intro i j s
   rw[List.flatMap_cons,happ,qcr,hidx _ j 0]
   unfold qjE
   cases qcr qeo (qbL x) 0 s with
   | error u=>rfl
   | ok t=>exact ih _ 0 t
theorem qh6 (e:List CExpr):qjh e [] = !decide (e.flatMap qbL).Nodup:=by
 unfold qjh
 have hs:=quR (e.flatMap qbL) 0 []
 rw[← qq0 e 0 0 []] at hs
 dsimp only[qcr]
 cases hq:qcr qjE e 0 [] with
 | error u =>
   have:¬ (e.flatMap qbL).Nodup:=fun h=>hs.1 ⟨u,hq⟩ ⟨h,fun _ _=>rfl⟩
   simp[this]
 | ok t =>
   have:(e.flatMap qbL).Nodup:=by
    refine Classical.byContradiction fun h=>?_
    obtain⟨u,hu⟩:=hs.2 fun hx=>h hx.1
    rw[hq] at hu
    cases hu
   simp[this]
end
structure CPrims (L:Lib) (sortI:List Int→List Int):Prop where
 clone:∀ (l:List Int) (h:Heap),l.length<2 ^ 30→pcall L 188 [.list (l.map qaP) none] h=some (.val (.list (l.map qaP) none),h)
 sort:∀ (l:List Int),l≠[]→l.length<2 ^ 30→call L 138 [.vec 0 l.length] [.vec (l.map qaP) 1]=some (.val (.tuple []),[.vec ((sortI l).map qaP) 1])
 sort0:∀ h:Heap,pcall L 138 [.list [] none] h=some (.val (.tuple []),h)
def CTree.none:CTree:=.mk 0 0 [] [] []
def qeR (ts:List CTree) (x:CExpr):List CTree:=ts++[.mk x.op x.n x.binds (x.kids.map fun k=>ts.getD k.toNat .none) x.alts]
def qeH (e:List CExpr):List CTree:=e.foldl qeR []
def qb2 (e:List CExpr):CTree:=(qeH e).getD (e.length-1) .none
def qhJ (e:List CExpr):Prop:=∀ (i:Nat) (hi:i<e.length),∀ k∈e[i].kids,0≤k∧k<i
theorem qdE (cs:List AVal) (n:Nat):wipeR (.vptr cs n)=.vptr cs n:=rfl
theorem qc0 (t:CTree):∃ tc,qaX t=.vptr tc 0∧qaZ tc=true:=by
 have h:=qgN t
 cases t
 rw[qc6] at h ⊢
 exact⟨_,rfl,h⟩
section
variable {L:Lib} (hL:Plain L)
def qow (x:CExpr):AObj:=.box [.int .i64 x.op,.int .i64 x.n,.list (x.binds.map qaP) none,.list (x.kids.map qaP) none,.list (x.alts.map qaM) none]
end
section
theorem qjs (e:List CExpr) (i:Nat) (hi:i<e.length):qeH (e.take (i+1))=qeR (qeH (e.take i)) e[i]:=by
 unfold qeH
 rw[List.take_succ_eq_append_getElem hi,List.foldl_append]
 rfl
theorem qhE:∀ (e:List CExpr) (ts:List CTree),(e.foldl qeR ts).length=ts.length+e.length
 | [],ts=>rfl
 | x :: e,ts => by
   rw[List.foldl_cons,qhE e]
   simp[qeR]
   omega
theorem qoV (e:List CExpr):(qeH e).length=e.length:=by
 unfold qeH
 rw[qhE]
 simp
theorem qju (e:List CExpr) (i:Nat) (hi:i≤e.length):(qeH (e.take i)).length=i:=by
 rw[qoV]
 simp
 omega
end
end Go.Abs
