/-
  PARTS OF A PROOF, joined: an abstract machine for quiet code, its evaluation, and what the seat's functions answer on it. Conditions: none.
-/
import Derived.Test.YtbmognfolkhkpaaDoorG
set_option linter.unusedVariables false
set_option linter.unusedSimpArgs false
set_option maxRecDepth 100000
set_option maxHeartbeats 4000000
namespace Go.Abs
abbrev IM (β:Type):=List (Int × β)
section
variable {β:Type} (f:β→AVal)
def qlf (m:IM β):List (AVal × AVal):=m.map fun p=>(.int .i64 p.1,f p.2)
theorem qxw (hf:∀ b,qbd (f b)=true) (ρ:Nat→Option Nat) (m:IM β):qgg ρ (.map (qlf f m))=.map (qlf f m):=by
 have h1:∀ v:AVal,qbd v=true→ren ρ v=v:=fun v hv=>by unfold ren;rw[if_pos hv]
 unfold qgg qlf
 dsimp only
 rw[List.map_map]
 congr 1
 refine List.map_congr_left fun p _=>?_
 simp only[Function.comp,h1 _ (hf p.2),h1 (.int .i64 p.1) rfl]
theorem qxd (hf:∀ b,qbd (f b)=true) (m:IM β):qoH (.map (qlf f m))=[]:=by
 have h1:∀ v:AVal,qbd v=true→qbT v=[]:=fun v hv=>by unfold qbT;rw[if_pos hv]
 unfold qoH qlf
 dsimp only
 induction m with
 | nil=>rfl
 | cons p m ih =>
   rw[List.map_cons,List.flatMap_cons,h1 _ (hf p.2),h1 (.int .i64 p.1) rfl]
   exact ih
def qc8 (v:Int):IM β→Option β
 | []=>none
 | p::m=>if v=p.1 then some p.2 else qc8 v m
def qog (v:Int) (b:β) (m:IM β):IM β:=m.map fun p=>if v=p.1 then (v,b) else p
def qmD (v:Int) (b:β):IM β→IM β
 | []=>[(v,b)]
 | p::m=>if v<p.1 then (v,b)::p::m else p::qmD v b m
def qqg (v:Int) (b:β) (m:IM β):IM β:=if (qc8 v m).isSome=true then qog v b m else qmD v b m
theorem qiM {v:Int} {b:β}:∀ {m:IM β} (i:Nat),qc8 v m=some b→∃ j,qbX (.int .i64 v) (qlf f m) i=some (some (j,f b))
 | [],i,h=>by cases h
 | p :: m,i,h => by
   unfold qc8 at h
   by_cases hv:v=p.1
   ·rw[if_pos hv] at h
    injection h with h
    subst h
    exact⟨i,by simp[qlf,qbX,qdC,hv]⟩
   ·rw[if_neg hv] at h
    obtain⟨j,hj⟩:=qiM (i+1) h
    have hb:(v==p.1)=false:=by simpa using hv
    exact⟨j,by rw[← hj];simp[qlf,qbX,qdC,hb]⟩
theorem qiL {v:Int}:∀ {m:IM β} (i:Nat),qc8 v m=none→qbX (.int .i64 v) (qlf f m) i=some none
 | [],i,h=>rfl
 | p :: m,i,h => by
   unfold qc8 at h
   by_cases hv:v=p.1
   ·rw[if_pos hv] at h
    cases h
   ·rw[if_neg hv] at h
    have hb:(v==p.1)=false:=by simpa using hv
    rw[← qiL (i+1) h]
    simp[qlf,qbX,qdC,hb]
theorem qpM (v:Int) (b:β):∀ m:IM β,qwU (.int .i64 v) (f b) (qlf f m)=qlf f (qmD v b m)
 | []=>rfl
 | p :: m => by
   unfold qmD qlf
   rw[List.map_cons,qwU]
   simp only[qxf,decide_eq_true_eq]
   by_cases h:v<p.1
   ·rw[if_pos h,if_pos h]
    rfl
   ·rw[if_neg h,if_neg h,List.map_cons]
    exact congrArg _ (qpM v b m)
theorem qtp (v:Int) (b:β) (m:IM β):qwK (.int .i64 v) (f b) (qlf f m)=qlf f (qog v b m):=by
 unfold qwK qlf qog
 rw[List.map_map,List.map_map]
 refine List.map_congr_left fun p _=>?_
 simp only[Function.comp,qdC,if_true,Option.some.injEq,beq_iff_eq]
 by_cases h:v=p.1
 ·rw[if_pos h,if_pos h]
 ·rw[if_neg h,if_neg h]
theorem qr4 (h:Heap) (r:Nat) (zero:AVal) (ok:Bool) (v:Int) (m:IM β) (hr:h[r]? = some (.map (qlf f m))) :
  qiF h .int zero ok (.map (some r)) (.int .i64 v)=some (match qc8 v m with | some b=>(if ok=true then .tuple [f b,.bool true] else f b) | none=>(if ok=true then .tuple [zero,.bool false] else zero)):=by
 unfold qiF qnX
 rw[if_pos (show qdD .int (.int .i64 v)=true from rfl)]
 dsimp only
 rw[hr]
 dsimp only
 cases hq:qc8 v m with
 | some b =>
   obtain⟨j,hj⟩:=qiM f 0 hq
   rw[hj]
 | none=>rw[qiL f 0 hq]
theorem qxP (h:Heap) (r:Nat) (v:Int) (b:β) (m:IM β) (hw:wipe (f b)=f b) (hr:h[r]? = some (.map (qlf f m))) :
  qeN h .int (.map (some r)) (.int .i64 v) (f b)=some (h.set r (.map (qlf f (qqg v b m)))):=by
 unfold qeN qqg
 dsimp only
 rw[hr]
 dsimp only
 rw[if_pos (show qdD .int (.int .i64 v)=true from rfl),hw]
 cases hq:qc8 v m with
 | some c =>
   obtain⟨j,hj⟩:=qiM f 0 hq
   rw[hj]
   simp only[Option.isSome_some,if_true,qtp]
 | none =>
   rw[qiL f 0 hq]
   simp only[Option.isSome_none,Bool.false_eq_true,if_false,qpM]
theorem qnt (v w:Int) (b:β):∀ m:IM β,qc8 w m=none→qc8 v (qmD w b m)=if v=w then some b else qc8 v m
 | [],_=>by simp[qmD,qc8]
 | p :: m,h => by
   unfold qc8 at h
   have hw:¬ w=p.1:=by
    intro e
    rw[if_pos e] at h
    cases h
   rw[if_neg hw] at h
   have ih:=qnt v w b m h
   unfold qmD
   by_cases hlt:w<p.1
   ·rw[if_pos hlt]
    simp only[qc8]
   ·rw[if_neg hlt]
    simp only[qc8]
    rw[ih]
    by_cases h1:v=p.1
    ·have:¬ v=w:=by omega
     rw[if_pos h1,if_neg this,if_pos h1]
    ·rw[if_neg h1,if_neg h1]
theorem qkq (v w:Int) (b:β):∀ m:IM β,(qc8 w m).isSome=true→qc8 v (qog w b m)=if v=w then some b else qc8 v m
 | [],h=>by cases h
 | p :: m,h => by
   unfold qog
   rw[List.map_cons]
   by_cases hw:w=p.1
   ·rw[if_pos hw]
    simp only[qc8]
    by_cases hv:v=w
    ·rw[if_pos hv,if_pos hv]
    ·rw[if_neg hv,if_neg hv,if_neg (by omega)]
     by_cases hs:(qc8 w m).isSome=true
     ·have:=qkq v w b m hs
      unfold qog at this
      rw[this,if_neg hv]
     ·have:m.map (fun p=>if w=p.1 then (w,b) else p)=m:=by
       have hn:∀ q∈m,¬ w=q.1:=by
        clear h
        induction m with
        | nil=>simp
        | cons q m ih =>
          intro x hx
          unfold qc8 at hs
          by_cases hq:w=q.1
          ·rw[if_pos hq] at hs;exact absurd rfl hs
          ·rw[if_neg hq] at hs
           rcases List.mem_cons.1 hx with rfl | hx
           ·exact hq
           ·exact ih hs x hx
       have h2:m.map (fun p=>if w=p.1 then (w,b) else p)=m.map id:=List.map_congr_left fun q hq=>if_neg (hn q hq)
       rw[h2,List.map_id]
      rw[this]
   ·rw[if_neg hw]
    unfold qc8 at h
    rw[if_neg hw] at h
    have:=qkq v w b m h
    unfold qog at this
    simp only[qc8]
    rw[this]
    by_cases h1:v=p.1
    ·rw[if_pos h1,if_neg (by omega),if_pos h1]
    ·rw[if_neg h1,if_neg h1]
theorem qkp (v w:Int) (b:β) (m:IM β):qc8 v (qqg w b m)=if v=w then some b else qc8 v m:=by
 unfold qqg
 by_cases h:(qc8 w m).isSome=true
 ·rw[if_pos h,qkq v w b m h]
 ·rw[if_neg h,qnt v w b m (by simpa using h)]
end
abbrev encU:IM Unit→List (AVal × AVal):=qlf fun _=>.agg []
def qee (_:Nat) (s:IM Unit) (n:Int):Except Unit (IM Unit):=if (qc8 n s).isSome=true then .error () else .ok (qqg n () s)
theorem quk (ns:List Int):∀ (i:Nat) (s:IM Unit),(∃ u,qcu qee ns i s=.error u)↔¬ (ns.Nodup∧∀ n∈ns,qc8 n s=none):=by
 induction ns with
 | nil=>intro i s;simp[qcu]
 | cons n ns ih =>
   intro i s
   rw[qcu]
   unfold qee
   by_cases h:(qc8 n s).isSome=true
   ·rw[if_pos h]
    simp only[List.forall_mem_cons]
    constructor
    ·intro _ hx
     rw[hx.2.1] at h
     cases h
    ·intro _;simp
   ·rw[if_neg h]
    dsimp only
    have h':qc8 n s=none:=by simpa using h
    have:=ih (i+1) (qqg n () s)
    unfold qee at this
    rw[this]
    simp only[qkp,List.nodup_cons,List.forall_mem_cons]
    apply not_congr
    constructor
    ·rintro ⟨h1,h2⟩
     refine⟨⟨?_,h1⟩,h',?_⟩
     ·intro hm
      have:=h2 n hm
      rw[if_pos rfl] at this
      cases this
     ·intro m hm
      have:=h2 m hm
      by_cases e:m=n
      ·rw[if_pos e] at this;cases this
      ·rwa [if_neg e] at this
    ·rintro ⟨⟨h1,h2⟩,_,h4⟩
     refine⟨h2,fun m hm=>?_⟩
     rw[if_neg (fun e:m=n=>h1 (e ▸ hm))]
     exact h4 m hm
theorem qb9 (s:IM Unit):qoH (.map (encU s))=[]:=qxd _ (fun _=>rfl) s
theorem qca (ρ:Nat→Option Nat) (s:IM Unit):qgg ρ (.map (encU s))=.map (encU s):=qxw _ (fun _=>rfl) ρ s
section
variable {L:Lib} (hL:Plain L)
def qoz (E:AVal) (s:IM Unit) (ns:List Int) (j:Nat):St:=⟨kt [0,5,18,19,20] [E,.map (some 0),.list (ns.map qa4) none,.int .i64 ns.length,.int .i64 j],[.map (encU s)]⟩
def qoA (E:AVal) (v:AVal) (s:IM Unit):St:=⟨kt [0,4,5] [E,v,.map (some 0)],[.map (encU s)]⟩
theorem quq (E:AVal) (hE:qbd E=true) (ns:List Int) (hl:ns.length<2 ^ 30) (s0:IM Unit) :
  (∀ s,qcu qee ns 0 s0=.ok s→True∧qb7 L.pure (call L) 1 [0,5,18,19,20] [0,4,5] 0 qg4 (qoz E s0 ns 0)=some (.normal,qoA E .junk s)) ∧
  (∀ u,qcu qee ns 0 s0=.error u→∃ R,(∃ s,R=qoA E (.bool true) s)∧qb7 L.pure (call L) 1 [0,5,18,19,20] [0,4,5] 0 qg4 (qoz E s0 ns 0)=some (.ret,R)):=by
 refine qcY ns qee (fun s j=>qoz E s ns j) (qoA E .junk) (fun _ R=>∃ s,R=qoA E (.bool true) s) (fun _ _=>True) s0 trivial ?_ ?_ ?_
 ·intro i hi s s' _ hq
  obtain⟨h1,h2,h3⟩:=qbF qa4 ns hl i hi
  refine⟨?_,trivial⟩
  unfold qee at hq
  split at hq
  ·cases hq
  ·rename_i hn
   injection hq with hq
   subst hq
   generalize ns[i]=n at *
   have hf:qc8 n s=none:=by simpa using hn
   have hlk:=fun (h:Heap) (hr:h[0]? = some (.map (encU s)))=>qr4 (fun _:Unit=>AVal.agg []) h 0 (.agg []) true n s hr
   have hup:=fun (h:Heap) (hr:h[0]? = some (.map (encU s)))=>qxP (fun _:Unit=>AVal.agg []) h 0 n () s rfl hr
   rw[hf] at hlk
   unfold qg4 qoz
   simp -implicitDefEqProofs only[qam,qad,qae,qab,qai,qac,qah,aOp,opd,qak,qaW,qaB,qag,qaV,qba,qa8,qan,qaj,qay,qbr,qcK,qau,qaJ,qaR,qaX,qaf,qaF,qas,qaH,qaG,qa5,ren,renC,qbT,qb2,qaa,qaq,qcd,Option.map_some,List.map_cons,List.map_nil,List.flatMap_cons,List.flatMap_nil,List.length_cons,List.length_nil,List.cons_append,List.nil_append,List.append_nil,List.getElem?_cons_zero,List.getElem?_cons_succ,List.set_cons_zero,List.set_cons_succ,List.take_succ_cons,List.take_zero,List.take_nil,List.drop_nil,List.all_nil,List.not_mem_nil,↓reduceIte,Bool.false_eq_true,and_true,not_false_eq_true,decide_true,decide_false,and_self,Nat.le_refl,reduceCtorEq,Nat.add_zero,Nat.zero_add,Nat.reduceEqDiff,Nat.reduceAdd,Nat.reduceLT,Nat.reduceLeDiff,Int.toNat_natCast,Int.natCast_nonneg,qaz,qa0,qbM,qaA,h1,h2,h3,hlk,hup,hE,qb9,qca]
 ·intro i hi s u _ hq
  obtain⟨h1,h2,h3⟩:=qbF qa4 ns hl i hi
  refine⟨_,⟨s,rfl⟩,?_⟩
  unfold qee at hq
  split at hq
  ·rename_i hn
   generalize ns[i]=n at *
   obtain⟨x,hf⟩:=Option.isSome_iff_exists.1 hn
   have hlk:=fun (h:Heap) (hr:h[0]? = some (.map (encU s)))=>qr4 (fun _:Unit=>AVal.agg []) h 0 (.agg []) true n s hr
   rw[hf] at hlk
   unfold qg4 qoz qoA
   simp -implicitDefEqProofs only[qam,qad,qae,qab,qai,qar,qac,qah,aOp,opd,qak,qaW,qaB,qag,qaV,qba,qa8,qan,qaj,qay,qbr,qau,qaJ,qaR,gcE,qaX,qaf,qaF,qas,qaH,qaG,qa5,ren,renC,qbT,qb2,qbR,qcd,List.map_cons,List.map_nil,List.flatMap_cons,List.flatMap_nil,List.length_cons,List.length_nil,List.cons_append,List.nil_append,List.append_nil,List.getElem?_cons_zero,List.getElem?_cons_succ,List.set_cons_zero,List.set_cons_succ,List.take_succ_cons,List.take_zero,List.take_nil,List.drop_nil,List.all_nil,List.not_mem_nil,↓reduceIte,Bool.false_eq_true,and_true,not_false_eq_true,decide_true,decide_false,and_self,Nat.le_refl,reduceCtorEq,Nat.add_zero,Nat.zero_add,Nat.reduceEqDiff,Nat.reduceAdd,Nat.reduceLT,Nat.reduceLeDiff,Int.toNat_natCast,Int.natCast_nonneg,qaz,qa0,qbM,h1,h2,h3,hlk,hE,qb9,qca]
  ·cases hq
 ·intro s _
  have h0:=qbG ns.length
  unfold qg4 qoz qoA
  simp -implicitDefEqProofs only[qad,qae,qab,qbj,qac,qah,aOp,opd,qak,qaB,qag,qba,qa8,qaj,gcE,qaX,qaf,qaF,qas,qaH,qaG,qa5,ren,renC,qbT,qb2,qcd,qbS,List.map_cons,List.map_nil,List.flatMap_cons,List.flatMap_nil,List.length_cons,List.length_nil,List.nil_append,List.append_nil,List.take_succ_cons,List.take_nil,List.not_mem_nil,↓reduceIte,Bool.false_eq_true,and_true,not_false_eq_true,decide_false,Nat.le_refl,reduceCtorEq,Nat.zero_add,Nat.reduceEqDiff,Nat.reduceLT,Nat.reduceLeDiff,qaz,qa0,h0,hE,qb9,qca]
def qcL (x:CExpr):List Int:=qfo x.op x.binds x.alts
def qs6 (x:CExpr):Prop:=(x.binds++x.alts.flatMap (·.binds)).length<2 ^ 30
def qoB (e:List CExpr) (x:CExpr) (i:Nat) (ns:List Int) (s:IM Unit) (j:Nat):St:=⟨kt [5,35,36,37,50,51,52] [.map (some 0),.list (e.map qaO) none,.int .i64 e.length,.int .i64 i,.list (ns.map qa4) none,.int .i64 ns.length,.int .i64 j],
 [.map (encU s),.box [.int .i64 x.op,.int .i64 x.n,.list (x.binds.map qa4) none,.list (x.kids.map qa4) none,.list (x.alts.map qa6) none],.gone]⟩
def qoC (e:List CExpr) (x:CExpr) (i:Nat) (v:AVal) (s:IM Unit):St:=⟨kt [4,5,35,36,37] [v,.map (some 0),.list (e.map qaO) none,.int .i64 e.length,.int .i64 i],
 [.map (encU s),.box [.int .i64 x.op,.int .i64 x.n,.list (x.binds.map qa4) none,.list (x.kids.map qa4) none,.list (x.alts.map qa6) none],.gone]⟩
theorem qql (e:List CExpr) (x:CExpr) (i:Nat) (ns:List Int) (hl:ns.length<2 ^ 30) (s0:IM Unit) :
  (∀ s,qcu qee ns 0 s0=.ok s→True∧qb7 L.pure (call L) 3 [5,35,36,37,50,51,52] [4,5,35,36,37] 4 qg5 (qoB e x i ns s0 0)=some (.normal,qoC e x i .junk s)) ∧
  (∀ u,qcu qee ns 0 s0=.error u→∃ R,(∃ s,R=qoC e x i (.bool true) s)∧qb7 L.pure (call L) 3 [5,35,36,37,50,51,52] [4,5,35,36,37] 4 qg5 (qoB e x i ns s0 0)=some (.ret,R)):=by
 have hdE:=qbu e
 refine qcY ns qee (fun s j=>qoB e x i ns s j) (qoC e x i .junk) (fun _ R=>∃ s,R=qoC e x i (.bool true) s) (fun _ _=>True) s0 trivial ?_ ?_ ?_
 ·intro j hj s s' _ hq
  obtain⟨h1,h2,h3⟩:=qbF qa4 ns hl j hj
  refine⟨?_,trivial⟩
  unfold qee at hq
  split at hq
  ·cases hq
  ·rename_i hn
   injection hq with hq
   subst hq
   generalize ns[j]=n at *
   have hf:qc8 n s=none:=by simpa using hn
   have hlk:=fun (h:Heap) (hr:h[0]? = some (.map (encU s)))=>qr4 (fun _:Unit=>AVal.agg []) h 0 (.agg []) true n s hr
   have hup:=fun (h:Heap) (hr:h[0]? = some (.map (encU s)))=>qxP (fun _:Unit=>AVal.agg []) h 0 n () s rfl hr
   rw[hf] at hlk
   unfold qg5 qoB
   simp -implicitDefEqProofs only[qam,qad,qae,qab,qai,qac,qah,aOp,opd,qak,qaW,qaB,qag,qaV,qba,qa8,qan,qaj,qay,qbr,qcK,qau,qaJ,qaR,qaX,qaf,qaF,qas,qaH,qaG,qa5,ren,renC,qbb,qbm,qbT,qb2,qcj,qbl,qaa,qaq,qcd,Option.map_some,List.map_cons,List.map_nil,List.flatMap_cons,List.flatMap_nil,List.length_cons,List.length_nil,List.cons_append,List.nil_append,List.append_nil,List.getElem?_cons_zero,List.getElem?_cons_succ,List.set_cons_zero,List.set_cons_succ,List.take_succ_cons,List.take_zero,List.take_nil,List.drop_nil,List.all_nil,List.not_mem_nil,↓reduceIte,Bool.false_eq_true,and_true,not_false_eq_true,decide_true,decide_false,and_self,Nat.le_refl,Nat.add_zero,Nat.zero_add,Nat.reduceEqDiff,Nat.reduceAdd,Nat.reduceLT,Nat.reduceLeDiff,Int.toNat_natCast,Int.natCast_nonneg,qaz,qa0,qbM,qaA,qaP,h1,h2,h3,hlk,hup,hdE,qb9,qca]
 ·intro j hj s u _ hq
  obtain⟨h1,h2,h3⟩:=qbF qa4 ns hl j hj
  refine⟨_,⟨s,rfl⟩,?_⟩
  unfold qee at hq
  split at hq
  ·rename_i hn
   generalize ns[j]=n at *
   obtain⟨y,hf⟩:=Option.isSome_iff_exists.1 hn
   have hlk:=fun (h:Heap) (hr:h[0]? = some (.map (encU s)))=>qr4 (fun _:Unit=>AVal.agg []) h 0 (.agg []) true n s hr
   rw[hf] at hlk
   unfold qg5 qoB qoC
   simp -implicitDefEqProofs only[qam,qad,qae,qab,qai,qar,qac,qah,aOp,opd,qak,qaW,qaB,qag,qaV,qba,qa8,qan,qaj,qay,qbr,qau,qaJ,qaR,gcE,qaX,qaf,qaF,qas,qaH,qaG,qa5,ren,renC,qbb,qbm,qbT,qb2,qcj,qbl,qaa,qbR,qaq,qcd,List.map_cons,List.map_nil,List.flatMap_cons,List.flatMap_nil,List.length_cons,List.length_nil,List.cons_append,List.nil_append,List.append_nil,List.getElem?_cons_zero,List.getElem?_cons_succ,List.set_cons_zero,List.set_cons_succ,List.take_succ_cons,List.take_zero,List.take_nil,List.drop_nil,List.all_nil,List.not_mem_nil,↓reduceIte,Bool.false_eq_true,and_true,not_false_eq_true,decide_true,decide_false,and_self,Nat.le_refl,Nat.add_zero,Nat.zero_add,Nat.reduceEqDiff,Nat.reduceAdd,Nat.reduceLT,Nat.reduceLeDiff,Int.toNat_natCast,Int.natCast_nonneg,qaz,qa0,qbM,qaA,qaP,h1,h2,h3,hlk,hdE,qb9,qca]
  ·cases hq
 ·intro s _
  have h0:=qbG ns.length
  unfold qg5 qoB qoC
  simp -implicitDefEqProofs only[qad,qae,qab,qbj,qac,qah,aOp,opd,qak,qaB,qag,qba,qa8,qaj,gcE,qaX,qaf,qaF,qas,qaH,qaG,qa5,ren,renC,qbb,qbm,qbT,qb2,qcj,qbl,qaa,qaq,qcd,qbS,List.map_cons,List.map_nil,List.flatMap_cons,List.flatMap_nil,List.length_cons,List.length_nil,List.nil_append,List.append_nil,List.take_succ_cons,List.take_nil,List.not_mem_nil,↓reduceIte,Bool.false_eq_true,and_true,not_false_eq_true,decide_false,Nat.le_refl,Nat.zero_add,Nat.reduceEqDiff,Nat.reduceAdd,Nat.reduceLT,Nat.reduceLeDiff,qaz,qa0,qaA,qaP,h0,hdE,qb9,qca]
theorem qsd (op:Int) (binds:List Int) (as:List CAlt):(qfo op binds as).length≤(binds++as.flatMap (·.binds)).length:=by
 unfold qfo
 rw[List.length_append,List.length_append]
 split<;>simp
theorem qyd:encU []=[]:=rfl
include hL
def qoD (e:List CExpr) (s:IM Unit) (i:Nat):St:=⟨kt [5,35,36,37] [.map (some 0),.list (e.map qaO) none,.int .i64 e.length,.int .i64 i],[.map (encU s)]⟩
def qjA (_:Nat) (s:IM Unit) (x:CExpr):Except Unit (IM Unit):=qcu qee (qcL x) 0 s
theorem qur (h232:L.fns 232=some fn232) (e:List CExpr) (hl:e.length<2 ^ 30) (hf:∀ x∈e,NodeFit x) (hb:∀ x∈e,qs6 x) (s0:IM Unit) :
  (∀ s,qcu qjA e 0 s0=.ok s→True∧qb7 L.pure (call L) 1 [5,35,36,37] [4] 2 qg6 (qoD e s0 0)=some (.normal,⟨kt [4] [.junk],[.map (encU s)]⟩)) ∧
  (∀ u,qcu qjA e 0 s0=.error u→∃ R,(∃ s:IM Unit,R=⟨kt [4] [.bool true],[.map (encU s)]⟩)∧qb7 L.pure (call L) 1 [5,35,36,37] [4] 2 qg6 (qoD e s0 0)=some (.ret,R)):=by
 have hp:=hL.pure
 have hdE:=qbu e
 refine qcY e qjA (qoD e) (fun s=>⟨kt [4] [.junk],[.map (encU s)]⟩) (fun _ R=>∃ s:IM Unit,R=⟨kt [4] [.bool true],[.map (encU s)]⟩) (fun _ _=>True) s0 trivial ?_ ?_ ?_
 ·intro i hi s s' _ hq
  obtain⟨h1,h2,h3⟩:=qbF qaO e hl i hi
  refine⟨?_,trivial⟩
  have hx:=hf e[i] (List.getElem_mem hi)
  have hbx:=hb e[i] (List.getElem_mem hi)
  generalize e[i]=x at *
  unfold qs6 at hbx
  have hbo:=qlw hL h232 x.op 0 x.binds (.list [] none) rfl x.alts hx.alts (by omega)
  have hle:=qsd x.op x.binds x.alts
  obtain⟨ha,_⟩:=qql (L:=L) e x i (qcL x) (by unfold qcL;omega) s
  obtain⟨_,ha⟩:=ha s' hq
  unfold qoB qoC at ha
  unfold qcL at ha
  simp only[Int.natCast_zero] at ha
  unfold qg6 qoD
  simp -implicitDefEqProofs only[qam,qad,qae,qab,qai,qac,qah,aOp,opd,qak,qaW,qaB,qag,qaV,qba,qcb,qa8,qan,qaj,qay,qbr,qbE,qaE,qcK,qcX,leaf,qau,qaJ,qbn,qaR,qaU,qaX,qaf,qaF,qas,qaH,qaG,qa5,ren,renC,qbb,qbm,qbT,qb2,qcj,qbl,qbv,qbk,qbz,qaa,qaq,qaQ,qcd,qav,qat,Option.map_some,List.map_cons,List.map_nil,List.flatMap_cons,List.flatMap_nil,List.length_cons,List.length_nil,List.length_map,List.cons_append,List.nil_append,List.append_nil,List.getElem?_cons_zero,List.getElem?_cons_succ,List.set_cons_zero,List.set_cons_succ,List.take_succ_cons,List.take_zero,List.drop_succ_cons,List.drop_zero,List.take_nil,List.drop_nil,List.all_cons,List.all_nil,List.not_mem_nil,↓reduceIte,Bool.and_true,Bool.false_eq_true,and_true,false_and,not_false_eq_true,decide_true,decide_false,and_self,Nat.le_refl,reduceCtorEq,Nat.add_zero,Nat.zero_add,Nat.reduceEqDiff,Nat.reduceAdd,Nat.reduceLT,Nat.reduceLeDiff,Int.toNat_natCast,Int.natCast_nonneg,qaz,qa0,qch,qco,qcM,qds,frz,frzC,qla,qbB,qaA,qaP,h1,h2,h3,hbo,ha,hdE,qb9,qca,qaK L hp,hp]
 ·intro i hi s u _ hq
  obtain⟨h1,h2,h3⟩:=qbF qaO e hl i hi
  have hx:=hf e[i] (List.getElem_mem hi)
  have hbx:=hb e[i] (List.getElem_mem hi)
  generalize e[i]=x at *
  unfold qs6 at hbx
  have hbo:=qlw hL h232 x.op 0 x.binds (.list [] none) rfl x.alts hx.alts (by omega)
  have hle:=qsd x.op x.binds x.alts
  obtain⟨_,ha⟩:=qql (L:=L) e x i (qcL x) (by unfold qcL;omega) s
  obtain⟨R,⟨t,rfl⟩,ha⟩:=ha u hq
  refine⟨_,⟨t,rfl⟩,?_⟩
  unfold qoB qoC at ha
  unfold qcL at ha
  simp only[Int.natCast_zero] at ha
  unfold qg6 qoD
  simp -implicitDefEqProofs only[qam,qad,qae,qab,qai,qac,qah,aOp,opd,qak,qaW,qaB,qag,qaV,qba,qcb,qa8,qan,qaj,qay,qbr,qbE,qaE,qcK,qcX,leaf,qau,qaJ,qbn,qaR,qaU,gcE,qaX,qaf,qaF,qas,qaH,qaG,qa5,ren,renC,qbb,qbm,qbT,qb2,qcj,qbl,qbv,qbk,qbz,qaa,qbR,qaq,qaQ,qcd,qav,qat,Option.map_some,List.map_cons,List.map_nil,List.flatMap_cons,List.flatMap_nil,List.length_cons,List.length_nil,List.length_map,List.cons_append,List.nil_append,List.append_nil,List.getElem?_cons_zero,List.getElem?_cons_succ,List.set_cons_zero,List.set_cons_succ,List.take_succ_cons,List.take_zero,List.drop_succ_cons,List.drop_zero,List.take_nil,List.drop_nil,List.all_cons,List.all_nil,List.not_mem_nil,↓reduceIte,Bool.and_true,Bool.false_eq_true,and_true,false_and,not_false_eq_true,decide_true,decide_false,and_self,Nat.le_refl,reduceCtorEq,Nat.add_zero,Nat.zero_add,Nat.reduceEqDiff,Nat.reduceAdd,Nat.reduceLT,Nat.reduceLeDiff,Int.toNat_natCast,Int.natCast_nonneg,qaz,qa0,qch,qco,qcM,qds,frz,frzC,qla,qbB,qaA,qaP,h1,h2,h3,hbo,ha,hdE,qb9,qca,qaK L hp,hp]
 ·intro s _
  have h0:=qbG e.length
  unfold qg6 qoD
  simp -implicitDefEqProofs only[qad,qae,qab,qbj,qac,qah,aOp,opd,qak,qaB,qag,qba,qa8,qaj,gcE,qaX,qaf,qaF,qas,qaG,qa5,ren,renC,qbT,qb2,qbS,List.map_cons,List.map_nil,List.flatMap_cons,List.flatMap_nil,List.length_cons,List.length_nil,List.append_nil,List.take_succ_cons,List.take_nil,↓reduceIte,Bool.false_eq_true,decide_false,Nat.le_refl,Nat.zero_add,Nat.reduceEqDiff,qaz,qa0,h0,hdE,qb9,qca]
def qi6 (e:List CExpr) (ps:List Int):Bool :=
 match qcu qee ps 0 [] with
 | .error _=>true
 | .ok s=>(match qcu qjA e 0 s with | .error _=>true | .ok _=>false)
theorem qus (h232:L.fns 232=some fn232) (h195:L.fns 195=some fn195) (e:List CExpr) (hl:e.length<2 ^ 30) (hf:∀ x∈e,NodeFit x) (hb:∀ x∈e,qs6 x) (ps:List Int) (hps:ps.length<2 ^ 30) (h:Heap) :
  pcall L 195 [.list (e.map qaO) none,.list (ps.map qa4) none] h=some (.val (.bool (qi6 e ps)),h):=by
 have hdE:=qbu e
 refine qbL hL h195 rfl ?_ h
 obtain⟨ha,hb1⟩:=quq (L:=L) (.list (e.map qaO) none) (by rw[qaa];exact hdE) ps hps []
 unfold qi6
 cases hq:qcu qee ps 0 [] with
 | error u =>
   obtain⟨R,⟨s,rfl⟩,hl0⟩:=hb1 u hq
   unfold qoz qoA at hl0
   simp only[Int.natCast_zero,qyd] at hl0
   unfold fn195
   simp -implicitDefEqProofs only[qad,qae,qac,qah,aOp,opd,qak,qal,qaB,qag,qcb,qaS,qao,qaw,qaI,qaU,qaX,qaf,qaF,qas,qaH,qaG,qa5,ren,renC,qiz,qbT,qb2,qio,qa7,qaa,qaq,qcd,Option.getD_some,List.map_cons,List.map_nil,List.flatMap_cons,List.flatMap_nil,List.length_cons,List.length_nil,List.length_map,List.nil_append,List.append_nil,List.getElem?_cons_zero,List.getElem?_cons_succ,List.take_succ_cons,List.take_nil,List.not_mem_nil,↓reduceIte,Bool.false_eq_true,and_true,not_false_eq_true,decide_false,Nat.le_refl,reduceCtorEq,Nat.zero_add,Nat.reduceEqDiff,Nat.reduceLT,Nat.reduceLeDiff,qaD,qaA,hl0,hdE,qb9,qca]
 | ok s =>
   obtain⟨_,hl0⟩:=ha s hq
   unfold qoz qoA at hl0
   simp only[Int.natCast_zero,qyd] at hl0
   obtain⟨hc,hd⟩:=qur hL h232 e hl hf hb s
   dsimp only
   cases hr:qcu qjA e 0 s with
   | error u =>
     obtain⟨R,⟨t,rfl⟩,hl2⟩:=hd u hr
     unfold qoD at hl2
     simp only[Int.natCast_zero] at hl2
     unfold fn195
     simp -implicitDefEqProofs only[qad,qae,qac,qah,aOp,opd,qak,qal,qaB,qag,qcb,qaS,qao,qaw,qaI,qaU,qaX,qaf,qaF,qas,qaH,qaG,qa5,ren,renC,qiz,qbT,qb2,qio,qa7,qaa,qaq,qcd,Option.getD_some,List.map_cons,List.map_nil,List.flatMap_cons,List.flatMap_nil,List.length_cons,List.length_nil,List.length_map,List.nil_append,List.append_nil,List.getElem?_cons_zero,List.getElem?_cons_succ,List.take_succ_cons,List.take_nil,List.not_mem_nil,↓reduceIte,Bool.false_eq_true,and_true,not_false_eq_true,decide_false,Nat.le_refl,reduceCtorEq,Nat.zero_add,Nat.reduceEqDiff,Nat.reduceLT,Nat.reduceLeDiff,qa0,qaD,qaA,hl0,hl2,hdE,qb9,qca]
   | ok t =>
     obtain⟨_,hl2⟩:=hc t hr
     unfold qoD at hl2
     simp only[Int.natCast_zero] at hl2
     unfold fn195
     simp -implicitDefEqProofs only[qad,qae,qar,qac,qah,aOp,opd,qak,qal,qaB,qag,qcb,qaS,qao,qaw,qaI,qaU,qaX,qaf,qaF,qas,qaH,qaG,qa5,ren,renC,qiz,qbT,qb2,qio,qa7,qaa,qaq,qcd,Option.getD_some,List.map_cons,List.map_nil,List.flatMap_cons,List.flatMap_nil,List.length_cons,List.length_nil,List.length_map,List.nil_append,List.append_nil,List.getElem?_cons_zero,List.getElem?_cons_succ,List.take_succ_cons,List.take_nil,List.not_mem_nil,↓reduceIte,Bool.false_eq_true,and_true,not_false_eq_true,decide_false,Nat.le_refl,reduceCtorEq,Nat.zero_add,Nat.reduceEqDiff,Nat.reduceLT,Nat.reduceLeDiff,qa0,qaD,qaA,hl0,hl2,hdE,qb9,qca]
end
section
theorem qq3:∀ (e:List CExpr) (i j:Nat) (s:IM Unit),qcu qjA e i s=qcu qee (e.flatMap qcL) j s:=by
 have hidx:∀ (ns:List Int) (i j:Nat) (s:IM Unit),qcu qee ns i s=qcu qee ns j s:=by
  intro ns
  induction ns with
  | nil=>intros;rfl
  | cons n ns ih =>
    intro i j s
    rw[qcu,qcu]
    have:qee i s n=qee j s n:=rfl
    rw[this]
    cases qee j s n with
    | error u=>rfl
    | ok t=>exact ih _ _ t
 have happ:∀ (ns ms:List Int) (i:Nat) (s:IM Unit),qcu qee (ns++ms) i s=(match qcu qee ns i s with | .ok t=>qcu qee ms 0 t | .error u=>.error u):=by
  intro ns
  induction ns with
  | nil=>intro ms i s;exact hidx ms i 0 s
  | cons n ns ih =>
    intro ms i s
    rw[List.cons_append,qcu,qcu]
    cases qee i s n with
    | error u=>rfl
    | ok t=>exact ih ms (i+1) t
 intro e
 induction e with
 | nil=>intros;rfl
 | cons x e ih =>
   intro i j s
   rw[List.flatMap_cons,happ,qcu,hidx _ j 0]
   unfold qjA
   cases qcu qee (qcL x) 0 s with
   | error u=>rfl
   | ok t=>exact ih _ 0 t
theorem qpq (e:List CExpr):qi6 e [] = !decide (e.flatMap qcL).Nodup:=by
 unfold qi6
 have hs:=quk (e.flatMap qcL) 0 []
 rw[← qq3 e 0 0 []] at hs
 dsimp only[qcu]
 cases hq:qcu qjA e 0 [] with
 | error u =>
   have:¬ (e.flatMap qcL).Nodup:=fun h=>hs.1 ⟨u,hq⟩ ⟨h,fun _ _=>rfl⟩
   simp[this]
 | ok t =>
   have:(e.flatMap qcL).Nodup:=by
    refine Classical.byContradiction fun h=>?_
    obtain⟨u,hu⟩:=hs.2 fun hx=>h hx.1
    rw[hq] at hu
    cases hu
   simp[this]
end
end Go.Abs
set_option linter.unusedVariables false
set_option linter.unusedSimpArgs false
set_option maxRecDepth 100000
set_option maxHeartbeats 4000000
namespace Go.Abs
structure CPrims (L:Lib) (sortI:List Int→List Int):Prop where
 clone:∀ (l:List Int) (h:Heap),l.length<2 ^ 30→pcall L 188 [.list (l.map qa4) none] h=some (.val (.list (l.map qa4) none),h)
 sort:∀ (l:List Int),l≠[]→l.length<2 ^ 30→call L 138 [.vec 0 l.length] [.vec (l.map qa4) 1]=some (.val (.tuple []),[.vec ((sortI l).map qa4) 1])
 sort0:∀ h:Heap,pcall L 138 [.list [] none] h=some (.val (.tuple []),h)
def CTree.none:CTree:=.mk 0 0 [] [] []
def qeH (ts:List CTree) (x:CExpr):List CTree:=ts++[.mk x.op x.n x.binds (x.kids.map fun k=>ts.getD k.toNat .none) x.alts]
def qex (e:List CExpr):List CTree:=e.foldl qeH []
def qdY (e:List CExpr):CTree:=(qex e).getD (e.length-1) .none
def qfj (e:List CExpr):Prop:=∀ (i:Nat) (hi:i<e.length),∀ k∈e[i].kids,0≤k∧k<i
theorem qfE (cs:List AVal) (n:Nat):wipeR (.vptr cs n)=.vptr cs n:=rfl
theorem qdT (t:CTree):∃ tc,qa1 t=.vptr tc 0∧qaZ tc=true:=by
 have h:=qc3 t
 cases t
 rw[qbJ] at h ⊢
 exact⟨_,rfl,h⟩
section
variable {L:Lib} (hL:Plain L)
def qlo (x:CExpr):AObj:=.box [.int .i64 x.op,.int .i64 x.n,.list (x.binds.map qa4) none,.list (x.kids.map qa4) none,.list (x.alts.map qa6) none]
include hL
end
section
theorem qjj (e:List CExpr) (i:Nat) (hi:i<e.length):qex (e.take (i+1))=qeH (qex (e.take i)) e[i]:=by
 unfold qex
 rw[List.take_succ_eq_append_getElem hi,List.foldl_append]
 rfl
theorem qhq:∀ (e:List CExpr) (ts:List CTree),(e.foldl qeH ts).length=ts.length+e.length
 | [],ts=>rfl
 | x :: e,ts => by
   rw[List.foldl_cons,qhq e]
   simp[qeH]
   omega
theorem qo5 (e:List CExpr):(qex e).length=e.length:=by
 unfold qex
 rw[qhq]
 simp
theorem qjl (e:List CExpr) (i:Nat) (hi:i≤e.length):(qex (e.take i)).length=i:=by
 rw[qo5]
 simp
 omega
variable {L:Lib} (hL:Plain L)
include hL
end
end Go.Abs
