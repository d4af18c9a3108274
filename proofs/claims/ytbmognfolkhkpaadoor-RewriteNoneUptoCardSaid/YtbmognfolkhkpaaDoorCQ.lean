/-
  PARTS OF A PROOF, joined: an abstract machine for quiet code, its evaluation, and what the seat's functions answer on it. Conditions: none.
-/
import Derived.Test.YtbmognfolkhkpaaDoorN
import Derived.Test.YtbmognfolkhkpaaDoorC
set_option linter.unusedVariables false
set_option linter.unusedSimpArgs false
set_option maxRecDepth 100000
set_option maxHeartbeats 4000000
namespace Go.Abs
theorem qjI : ∀ (as : List CAlt) (b : Int),b ≤ qbX b as ∧ ∀ a ∈ as,(a.binds.length : Int) ≤ qbX b as
 | [],b => ⟨Int.le_refl _,by simp⟩
 | a :: as,b => by
   obtain ⟨h1,h2⟩ := qjI as (max b (a.binds.length : Int))
   have e : qbX b (a :: as) = qbX (max b (a.binds.length : Int)) as := rfl
   rw [e]
   refine ⟨by omega,fun x hx => ?_⟩
   rcases List.mem_cons.1 hx with rfl | hx
   ·omega
   ·exact h2 x hx
theorem qhM {op n : Int} {binds : List Int} {kl : Nat} {as : List CAlt} (h : qdD op n binds kl as = 0) : qbX binds.length as ≤ 16 := by
 unfold qdD at h
 split at h
 ·cases h
 ·split at h
  ·cases h
  ·split at h
   ·cases h
   ·split at h
    ·cases h
    ·rename_i ht
     unfold qkn at ht
     simp only [Bool.or_eq_true,decide_eq_true_eq,not_or] at ht
     have := ht.1.1.1
     split at this <;> omega
theorem qqk {op n : Int} {bl kl : Nat} {as : List CAlt} (h : qbL op n bl kl as = true) : as.length = 0 ∨ kl = as.length + 1 := by
 unfold qbL at h
 split at h
 ·simp only [Bool.and_eq_true] at h
  have := h.1.1
  unfold qjq at this
  simp only [Bool.and_eq_true,beq_iff_eq] at this
  right
  omega
 ·split at h
  ·cases h
  ·unfold qcx at h
   simp only [Bool.and_eq_true,beq_iff_eq] at h
   left
   omega
theorem qpY (as : List CAlt) (h : ∀ a ∈ as,a.binds.length ≤ 16) : (as.flatMap (·.binds)).length ≤ 16 * as.length := by
 induction as with
 | nil => simp
 | cons a as ih =>
   rw [List.flatMap_cons,List.length_append,List.length_cons]
   have := h a (by simp)
   have := ih fun x hx => h x (by simp [hx])
   omega
theorem qo6 {l : Lab} (h : qpX l = 0) (hk : l.kops.length ≤ 4096) : (l.binds ++ l.alts.flatMap (·.binds)).length ≤ 16 + 16 * 4096 := by
 unfold qpX at h
 split at h
 ·cases h
 ·rename_i hs
  have hs : qbL l.op l.n l.binds.length l.kops.length l.alts = true := by simpa using hs
  split at h
  ·rename_i hr; exact absurd h hr
  ·rename_i hr
   have hr : qdD l.op l.n l.binds l.kops.length l.alts = 0 := Classical.not_not.1 hr
   have hf := qhM hr
   obtain ⟨h1,h2⟩ := qjI l.alts (l.binds.length : Int)
   have h3 := qpY l.alts fun a ha => by have := h2 a ha; omega
   rw [List.length_append]
   rcases qqk hs with h4 | h4 <;> omega
theorem qp5 (e : List CExpr) (h : TreeL e) : (e.flatMap (·.kids)).length + 1 = e.length := by
 have h1 := (qeD e h).length_eq
 rw [List.length_range,List.length_cons] at h1
 have h2 : ((List.range e.length).flatMap (qb5 e)).length = (e.flatMap (·.kids)).length := by
  have h3 : e = (List.range e.length).map fun i => (e[i]?).getD ⟨0,0,[],[],[]⟩ := by
   refine List.ext_getElem (by simp) fun i h1 h2 => ?_
   simp [h1]
  conv => rhs; rw [h3,List.flatMap_map]
  rw [List.length_flatMap,List.length_flatMap]
  congr 1
  refine List.map_congr_left fun i hi => ?_
  have hi := List.mem_range.1 hi
  unfold qb5
  simp [hi]
 omega
theorem qro (e : List CExpr) (h : TreeL e) (x : CExpr) (hx : x ∈ e) : x.kids.length ≤ e.length := by
 have h1 := qp5 e h
 obtain ⟨s,t,rfl⟩ := List.append_of_mem hx
 rw [List.flatMap_append,List.flatMap_cons,List.length_append,List.length_append] at h1
 omega
theorem qtP {β : Type} (v : Int) (b : β) (m : IM β) : (qpx v b m).length ≤ m.length + 1 := by
 have hins : ∀ m : IM β,(qlU v b m).length = m.length + 1 := by
  intro m
  induction m with
  | nil => rfl
  | cons p m ih => unfold qlU; split <;> simp [ih]
 unfold qpx
 split
 ·unfold qnu; simp
 ·rw [hins]; omega
mutual
theorem qo9 : ∀ (t : CTree) (s : FS),(qeH t s).2.length ≤ s.2.length + qbq t
 | .mk op n binds kids alts,s => by
   rw [qeH,qbq]
   have := qmK op binds alts kids 0 (qeC op n s)
   have h2 : (qeC op n s).2.length ≤ s.2.length + 1 := by
    unfold qeC
    split
    ·exact qtP _ _ _
    ·omega
   omega
theorem qmK (op : Int) (binds : List Int) (alts : List CAlt) : ∀ (ks : List CTree) (k : Nat) (s : FS),(qeO op binds alts ks k s).2.length ≤ s.2.length + qa6 ks
 | [],k,s => by rw [qeO]; omega
 | kid :: ks,k,s => by
   rw [qeO,qa6]
   have h1 := qmK op binds alts ks (k + 1) ((qdi op binds alts k).foldl (qhE (-1)) (qeH kid ((qdi op binds alts k).foldl (qhE 1) s.1,s.2)).1,(qeH kid ((qdi op binds alts k).foldl (qhE 1) s.1,s.2)).2)
   have h2 := qo9 kid ((qdi op binds alts k).foldl (qhE 1) s.1,s.2)
   dsimp only at h1 h2
   omega
end
theorem qoE (e : List CExpr) (hk : qfC e) (hf : ∀ x ∈ e,NodeFit x) (hb : ∀ x ∈ e,qsv x) : ∀ i,i < e.length → TFit (qci e i) := by
 intro i
 induction i using Nat.strongRecOn with
 | ind i ih =>
   intro hi
   rw [qdH e hk i hi]
   have hx := hf e[i] (List.getElem_mem hi)
   refine .mk _ _ _ _ _ (hb e[i] (List.getElem_mem hi)) (by rw [List.length_map]; exact hx.kids) hx.alts ?_
   intro k hkm
   obtain ⟨q,hq,rfl⟩ := List.mem_map.1 hkm
   obtain ⟨q0,q1⟩ := hk i hi q hq
   exact ih q.toNat (by omega) (by omega)
def qwJ (flat : Bool) (op : Int) : Bool := (flat && qi0 op) || (!flat && qi2 op)
def qc2 (flat : Bool) (l : Lab) : Int := if qwJ flat l.op = true then 3 else qpX l
def qlF (e : List CExpr) (ps : List Int) (flat : Bool) : Int :=
 if qfy e ≠ 0 then qfy e
 else if qct (e.map fun x => qc2 flat (qh9 e x)) ≠ 0 then qct (e.map fun x => qc2 flat (qh9 e x))
 else if qir e ps = true then 7
 else if ((qhv (qdC e)).any fun n => !qqr ps n) = true then 6 else 0
theorem qfg {α : Type} (g : α → Int) : ∀ (l : List α),qct (l.map g) = 0 ↔ ∀ x ∈ l,g x = 0
 | [] => by simp [qct]
 | x :: l => by
   rw [List.map_cons,qct]
   by_cases h : g x = 0
   ·rw [if_pos h,qfg g l]
    simp [h]
   ·rw [if_neg h]
    simp [h]
structure CLib (L : Lib) : Prop where
 plain : Plain L
 prims : CPrims L qbF
 f134 : L.fns 134 = some fn134
 f151 : L.fns 151 = some fn151
 grow : ∀ (e : List CExpr) (h : Heap),e.length < 2 ^ 30 → (∀ x ∈ e,NodeFit x) → TreeL e → hgt (qdC e) ≤ 400 → pcall L 160 [.list (e.map qaO) none] h = some (.val (qa8 (qdC e)),h)
 f165 : L.fns 165 = some fn165
 f167 : L.fns 167 = some fn167
 f181 : L.fns 181 = some fn181
 f190 : L.fns 190 = some fn190
 f191 : L.fns 191 = some fn191
 f192 : L.fns 192 = some fn192
 f193 : L.fns 193 = some fn193
 f194 : L.fns 194 = some fn194
 f195 : L.fns 195 = some fn195
 f196 : L.fns 196 = some fn196
 f232 : L.fns 232 = some fn232
 f234 : L.fns 234 = some fn234
 f235 : L.fns 235 = some fn235
 f236 : L.fns 236 = some fn236
 f258 : L.fns 258 = some fn258
 f259 : L.fns 259 = some fn259
 f264 : L.fns 264 = some fn264
 f265 : L.fns 265 = some fn265
 f266 : L.fns 266 = some fn266
section
variable {L : Lib} (hC : CLib L)
include hC
theorem qut (e : List CExpr) (hl : e.length < 2 ^ 30) (hf : ∀ x ∈ e,NodeFit x) (hk : qfC e) (ps : List Int) (flat : Bool) :
  qb1 L.pure (call L) 1 [1,2,3,18,19,20] [1,3,6] 0 qdW ⟨kt [1,2,3,18,19,20] [.list (ps.map qa0) none,.bool flat,.vptr [.list (e.map qaO) none] 0,.list (e.map qaO) none,.int .i64 e.length,.int .i64 ((0 : Nat) : Int)],[.gone]⟩ =
  some (if qct (e.map fun x => qc2 flat (qh9 e x)) = 0 then (.normal,⟨kt [1,3,6] [.list (ps.map qa0) none,.vptr [.list (e.map qaO) none] 0,.junk],[.gone]⟩)
   else (.ret,⟨kt [1,3,6] [.list (ps.map qa0) none,.vptr [.list (e.map qaO) none] 0,.int .i64 (qct (e.map fun x => qc2 flat (qh9 e x)))],[.gone]⟩)) := by
 have hL := hC.plain
 have hp := hL.pure
 have hdE := qbO e
 have hround : ∀ (i : Nat) (hi : i < e.length),qbR L.pure (call L) 1 [1,2,3,18,19,20] [1,3,6] qdW ⟨kt [1,2,3,18,19,20] [.list (ps.map qa0) none,.bool flat,.vptr [.list (e.map qaO) none] 0,.list (e.map qaO) none,.int .i64 e.length,.int .i64 i],[.gone]⟩ =
   some (if qc2 flat (qh9 e e[i]) = 0 then (.normal,⟨kt [1,2,3,18,19,20] [.list (ps.map qa0) none,.bool flat,.vptr [.list (e.map qaO) none] 0,.list (e.map qaO) none,.int .i64 e.length,.int .i64 ((i + 1 : Nat) : Int)],[.gone]⟩)
    else (.ret,⟨kt [1,3,6] [.list (ps.map qa0) none,.vptr [.list (e.map qaO) none] 0,.int .i64 (qc2 flat (qh9 e e[i]))],[.gone]⟩)) := by
  intro i hi
  obtain ⟨h1,h2,h3⟩ := qbx qaO e hl i hi
  have hn := qv1 hL hC.f265 hC.f264 hC.f266 hC.f258 hC.f259 hC.f234 hC.f235 hC.f194 hC.f193 e e[i] (hf e[i] (List.getElem_mem hi)) (fun k hkm => by have := hk i hi k hkm; omega)
  have c1 := qof hL hC.f191 e[i].op
  have c2 := qoj hL hC.f192 e[i].op
  unfold qos at hn
  unfold qc2
  have hop : (qh9 e e[i]).op = e[i].op := rfl
  rw [hop]
  generalize qh9 e e[i] = lb at *
  generalize e[i] = x at *
  rw [qbH] at hn
  unfold qwJ
  cases flat with
  | true =>
    cases hc : qi0 x.op with
    | true =>
      rw [hc] at c1
      unfold qdW
      simp -implicitDefEqProofs only [qal,qad,qae,qab,qaj,qar,qac,qao,qah,aOp,opd,qai,qa2,qaB,qaf,qaW,qbc,qba,qap,qak,qav,qay,qbv,qbt,qaE,leaf,qaq,qaS,gcE,qa1,qag,qaG,qat,qaH,qa3,ren,renC,qbh,qbZ,qcf,qbY,qbs,qaa,qas,qaV,qax,qau,qdI,beq_self_eq_true,Option.map_some,List.map_cons,List.map_nil,List.flatMap_cons,List.flatMap_nil,List.length_cons,List.length_nil,List.cons_append,List.nil_append,List.append_nil,List.getElem?_cons_zero,List.getElem?_cons_succ,List.set_cons_zero,List.set_cons_succ,List.take_succ_cons,List.take_zero,List.drop_succ_cons,List.drop_zero,List.take_nil,List.drop_nil,List.all_cons,List.all_nil,↓reduceIte,Bool.and_true,Bool.false_and,Bool.or_false,Bool.not_true,Bool.false_eq_true,decide_true,decide_false,and_self,Nat.le_refl,Nat.add_zero,Nat.zero_add,Nat.reduceEqDiff,Nat.reduceAdd,Nat.reduceLeDiff,Int.reduceEq,Int.toNat_natCast,Int.natCast_nonneg,qaz,qaZ,qa5,qbH,qaA,h1,h2,h3,c1,hdE,qaP L hp,hp]
    | false =>
      rw [hc] at c1
      by_cases hz : qpX lb = 0
      ·rw [hz] at hn
       unfold qdW
       simp -implicitDefEqProofs only [qal,qad,qae,qab,qaj,qac,qao,qah,aOp,opd,qai,qa2,qaB,qaf,qaW,qbc,qba,aUn,qap,qak,qav,qay,qbv,qbt,qaE,leaf,qaq,qaS,qa1,qag,qaG,qat,qaH,qa3,ren,renC,qbh,qbZ,qcf,qbY,qb6,qbs,qcF,qbg,qbp,qaa,qbU,qas,qb9,qbK,qaV,qax,qau,qbT,beq_self_eq_true,Option.map_some,List.map_cons,List.map_nil,List.flatMap_cons,List.flatMap_nil,List.length_cons,List.length_nil,List.cons_append,List.nil_append,List.append_nil,List.getElem?_cons_zero,List.getElem?_cons_succ,List.set_cons_zero,List.set_cons_succ,List.take_succ_cons,List.take_zero,List.drop_succ_cons,List.drop_zero,List.take_nil,List.drop_nil,List.all_cons,List.all_nil,↓reduceIte,Bool.and_true,Bool.and_false,Bool.false_and,Bool.or_false,Bool.not_true,Bool.false_eq_true,decide_true,decide_false,and_self,Nat.le_refl,Nat.add_zero,Nat.zero_add,Nat.reduceEqDiff,Nat.reduceAdd,Nat.reduceLeDiff,Int.toNat_natCast,Int.natCast_nonneg,qaz,qaZ,qa5,qbH,qaA,qaN,h1,h2,h3,c1,hn,hz,hdE,qaP L hp,hp,bne]
      ·have hz' : (qpX lb == 0) = false := by simpa using hz
       unfold qdW
       simp -implicitDefEqProofs only [qal,qad,qae,qab,qaj,qar,qac,qao,qah,aOp,opd,qai,qa2,qaB,qaf,qaW,qbc,qba,aUn,qap,qak,qav,qay,qbv,qbt,qaE,leaf,qaq,qaS,gcE,qa1,qag,qaG,qat,qaH,qa3,ren,renC,qbh,qbZ,qcf,qbY,qb6,qbs,qcF,qbg,qbp,qaa,qas,qb9,qbK,qaV,qax,qau,qbT,beq_self_eq_true,Option.map_some,List.map_cons,List.map_nil,List.flatMap_cons,List.flatMap_nil,List.length_cons,List.length_nil,List.cons_append,List.nil_append,List.append_nil,List.getElem?_cons_zero,List.getElem?_cons_succ,List.set_cons_zero,List.set_cons_succ,List.take_succ_cons,List.take_zero,List.drop_succ_cons,List.drop_zero,List.take_nil,List.drop_nil,List.all_cons,List.all_nil,↓reduceIte,Bool.and_true,Bool.and_false,Bool.false_and,Bool.or_false,Bool.not_true,Bool.not_false,Bool.false_eq_true,decide_true,decide_false,and_self,Nat.le_refl,Nat.add_zero,Nat.zero_add,Nat.reduceEqDiff,Nat.reduceAdd,Nat.reduceLeDiff,Int.toNat_natCast,Int.natCast_nonneg,qaz,qaZ,qa5,qbH,qaA,qaN,h1,h2,h3,c1,hn,hz,hz',hdE,qaP L hp,hp,bne]
  | false =>
    cases hc : qi2 x.op with
    | true =>
      rw [hc] at c2
      unfold qdW
      simp -implicitDefEqProofs only [qal,qad,qae,qab,qaj,qar,qac,qao,qah,aOp,opd,qai,qa2,qaB,qaf,qaW,qbc,qba,aUn,qap,qak,qav,qay,qbv,qbt,qaE,leaf,qaq,qaS,gcE,qa1,qag,qaG,qat,qaH,qa3,ren,renC,qbh,qbZ,qcf,qbY,qbs,qaa,qas,qaV,qax,qau,qbT,beq_self_eq_true,Option.map_some,List.map_cons,List.map_nil,List.flatMap_cons,List.flatMap_nil,List.length_cons,List.length_nil,List.cons_append,List.nil_append,List.append_nil,List.getElem?_cons_zero,List.getElem?_cons_succ,List.set_cons_zero,List.set_cons_succ,List.take_succ_cons,List.take_zero,List.drop_succ_cons,List.drop_zero,List.take_nil,List.drop_nil,List.all_cons,List.all_nil,↓reduceIte,Bool.and_true,Bool.false_and,Bool.or_true,Bool.not_false,Bool.false_eq_true,decide_true,decide_false,and_self,Nat.le_refl,Nat.add_zero,Nat.zero_add,Nat.reduceEqDiff,Nat.reduceAdd,Nat.reduceLeDiff,Int.reduceEq,Int.toNat_natCast,Int.natCast_nonneg,qaz,qaZ,qa5,qbH,qaA,h1,h2,h3,c2,hdE,qaP L hp,hp]
    | false =>
      rw [hc] at c2
      by_cases hz : qpX lb = 0
      ·rw [hz] at hn
       unfold qdW
       simp -implicitDefEqProofs only [qal,qad,qae,qab,qaj,qac,qao,qah,aOp,opd,qai,qa2,qaB,qaf,qaW,qbc,qba,aUn,qap,qak,qav,qay,qbv,qbt,qaE,leaf,qaq,qaS,qa1,qag,qaG,qat,qaH,qa3,ren,renC,qbh,qbZ,qcf,qbY,qb6,qbs,qcF,qbg,qbp,qaa,qbU,qas,qb9,qbK,qaV,qax,qau,qbT,beq_self_eq_true,Option.map_some,List.map_cons,List.map_nil,List.flatMap_cons,List.flatMap_nil,List.length_cons,List.length_nil,List.cons_append,List.nil_append,List.append_nil,List.getElem?_cons_zero,List.getElem?_cons_succ,List.set_cons_zero,List.set_cons_succ,List.take_succ_cons,List.take_zero,List.drop_succ_cons,List.drop_zero,List.take_nil,List.drop_nil,List.all_cons,List.all_nil,↓reduceIte,Bool.and_true,Bool.and_false,Bool.false_and,Bool.or_false,Bool.not_true,Bool.not_false,Bool.false_eq_true,decide_true,decide_false,and_self,Nat.le_refl,Nat.add_zero,Nat.zero_add,Nat.reduceEqDiff,Nat.reduceAdd,Nat.reduceLeDiff,Int.toNat_natCast,Int.natCast_nonneg,qaz,qaZ,qa5,qbH,qaA,qaN,h1,h2,h3,c2,hn,hz,hdE,qaP L hp,hp,bne]
      ·have hz' : (qpX lb == 0) = false := by simpa using hz
       unfold qdW
       simp -implicitDefEqProofs only [qal,qad,qae,qab,qaj,qar,qac,qao,qah,aOp,opd,qai,qa2,qaB,qaf,qaW,qbc,qba,aUn,qap,qak,qav,qay,qbv,qbt,qaE,leaf,qaq,qaS,gcE,qa1,qag,qaG,qat,qaH,qa3,ren,renC,qbh,qbZ,qcf,qbY,qb6,qbs,qcF,qbg,qbp,qaa,qas,qb9,qbK,qaV,qax,qau,qbT,beq_self_eq_true,Option.map_some,List.map_cons,List.map_nil,List.flatMap_cons,List.flatMap_nil,List.length_cons,List.length_nil,List.cons_append,List.nil_append,List.append_nil,List.getElem?_cons_zero,List.getElem?_cons_succ,List.set_cons_zero,List.set_cons_succ,List.take_succ_cons,List.take_zero,List.drop_succ_cons,List.drop_zero,List.take_nil,List.drop_nil,List.all_cons,List.all_nil,↓reduceIte,Bool.and_true,Bool.and_false,Bool.false_and,Bool.or_false,Bool.not_false,Bool.false_eq_true,decide_true,decide_false,and_self,Nat.le_refl,Nat.add_zero,Nat.zero_add,Nat.reduceEqDiff,Nat.reduceAdd,Nat.reduceLeDiff,Int.toNat_natCast,Int.natCast_nonneg,qaz,qaZ,qa5,qbH,qaA,qaN,h1,h2,h3,c2,hn,hz,hz',hdE,qaP L hp,hp,bne]
 refine qrx e (fun x => qc2 flat (qh9 e x)) (fun i => ⟨kt [1,2,3,18,19,20] [.list (ps.map qa0) none,.bool flat,.vptr [.list (e.map qaO) none] 0,.list (e.map qaO) none,.int .i64 e.length,.int .i64 i],[.gone]⟩) _
  (fun r => ⟨kt [1,3,6] [.list (ps.map qa0) none,.vptr [.list (e.map qaO) none] 0,.int .i64 r],[.gone]⟩) ?_ ?_ ?_
 ·intro i hi hz
  rw [hround i hi,if_pos hz]
 ·intro i hi hz
  rw [hround i hi,if_neg hz]
 ·have h0 := qbC e.length
  unfold qdW
  simp -implicitDefEqProofs only [qad,qae,qab,qbo,qac,qah,aOp,opd,qai,qaB,qaf,qbc,qba,qak,gcE,qa1,qag,qaG,qat,qaH,qa3,ren,renC,qbh,qbZ,qcf,qbY,qaa,qaV,qbV,qax,qau,List.map_cons,List.map_nil,List.flatMap_cons,List.flatMap_nil,List.length_cons,List.length_nil,List.append_nil,List.take_succ_cons,List.take_nil,↓reduceIte,Bool.and_true,Bool.false_eq_true,decide_false,Nat.le_refl,Nat.zero_add,Nat.reduceEqDiff,qaz,qaZ,qaA,h0,hdE]
theorem quu (ps fs : List Int) (hps : ps.length < 2 ^ 30) (hfs : fs.length < 2 ^ 30) :
  qb1 L.pure (call L) 1 [1,51,52,53] [6] 2 qhm ⟨kt [1,51,52,53] [.list (ps.map qa0) none,.list (fs.map qa0) none,.int .i64 fs.length,.int .i64 ((0 : Nat) : Int)],[.gone]⟩ =
  some (if (fs.any fun n => !qqr ps n) = true then (.ret,⟨kt [6] [.int .i64 6],[.gone]⟩) else (.normal,⟨kt [6] [.junk],[.gone]⟩)) := by
 have hL := hC.plain
 have hp := hL.pure
 refine qfV fs (fun n => !qqr ps n) (fun i => ⟨kt [1,51,52,53] [.list (ps.map qa0) none,.list (fs.map qa0) none,.int .i64 fs.length,.int .i64 i],[.gone]⟩) _ _ ?_ ?_ ?_
 ·intro i hi hq
  obtain ⟨h1,h2,h3⟩ := qbx qa0 fs hfs i hi
  have hc := qjE hL hC.f181 hC.f151 ps hps fs[i]
  have hq : qqr ps fs[i] = true := by simpa using hq
  rw [hq] at hc
  generalize fs[i] = a at *
  unfold qhm
  simp -implicitDefEqProofs only [qal,qad,qae,qab,qaj,qac,qah,aOp,opd,qai,qaB,qaf,qbc,qba,aUn,qap,qak,qay,qaJ,qa1,qag,qaG,qat,qaH,qa3,ren,renC,qbh,qbZ,qcf,qbY,qbu,qbs,qaa,qas,qax,qau,List.map_cons,List.map_nil,List.flatMap_cons,List.flatMap_nil,List.length_cons,List.length_nil,List.append_nil,List.getElem?_cons_zero,List.take_succ_cons,List.take_nil,↓reduceIte,Bool.and_true,Bool.not_true,Bool.false_eq_true,decide_true,decide_false,and_self,Nat.le_refl,Nat.zero_add,Nat.reduceEqDiff,Int.toNat_natCast,Int.natCast_nonneg,qaz,qaZ,qa5,qcb,qaA,h1,h2,h3,hc,qaP L hp,hp]
 ·intro i hi hq
  obtain ⟨h1,h2,h3⟩ := qbx qa0 fs hfs i hi
  have hc := qjE hL hC.f181 hC.f151 ps hps fs[i]
  have hq : qqr ps fs[i] = false := by simpa using hq
  rw [hq] at hc
  generalize fs[i] = a at *
  unfold qhm
  simp -implicitDefEqProofs only [qal,qad,qae,qab,qaj,qar,qac,qah,aOp,opd,qai,qaB,qaf,qbc,qba,aUn,qap,qak,qay,qaJ,gcE,qa1,qag,qaG,qat,qaH,qa3,ren,renC,qbh,qbZ,qcf,qbY,qbu,qbs,qaa,qas,qax,qau,List.map_cons,List.map_nil,List.flatMap_cons,List.flatMap_nil,List.length_cons,List.length_nil,List.append_nil,List.getElem?_cons_zero,List.take_succ_cons,List.take_nil,↓reduceIte,Bool.and_true,Bool.not_false,Bool.false_eq_true,decide_true,decide_false,and_self,Nat.le_refl,Nat.zero_add,Nat.reduceEqDiff,Int.toNat_natCast,Int.natCast_nonneg,qaz,qaZ,qa5,qcb,qaA,h1,h2,h3,hc,qaP L hp,hp]
 ·have h0 := qbC fs.length
  unfold qhm
  simp -implicitDefEqProofs only [qad,qae,qab,qbo,qac,qah,aOp,opd,qai,qaB,qaf,qbc,qba,qak,gcE,qa1,qag,qaG,qat,qaH,qa3,ren,renC,qbh,qbZ,qcf,qbY,qbV,List.map_cons,List.map_nil,List.flatMap_cons,List.flatMap_nil,List.length_cons,List.length_nil,List.append_nil,List.take_succ_cons,List.take_nil,↓reduceIte,Bool.false_eq_true,decide_false,Nat.le_refl,Nat.zero_add,Nat.reduceEqDiff,qaz,qaZ,h0]
theorem quv (e : List CExpr) (hl : e.length < 2 ^ 30) (hf : ∀ x ∈ e,NodeFit x) (ps : List Int) (hps : ps.length < 2 ^ 30) (flat : Bool) (h : Heap) :
  pcall L 165 [.list (e.map qaO) none,.list (ps.map qa0) none,.bool flat] h = some (.val (.int .i64 (qlF e ps flat)),h) := by
 have hL := hC.plain
 have hp := hL.pure
 have hdE := qbO e
 refine qb4 hL hC.f165 rfl ?_ h
 have htree := qwh hL hC.f190 e hf hl
 unfold qlF
 by_cases ht : qfy e = 0
 ·have htz := (qiO e).1 ht
  obtain ⟨hT,hn,hg⟩ := htz
  have hne : e ≠ [] := fun h => by have := hT.pos; rw [h] at this; simp at this
  have hl0 := qut hC e hl hf hT.ahead ps flat
  simp only [Int.natCast_zero] at hl0
  rw [if_neg (fun h => h ht)]
  rw [ht] at htree
  by_cases hz : qct (e.map fun x => qc2 flat (qh9 e x)) = 0
  ·rw [if_pos hz] at hl0
   rw [if_neg (fun h => h hz)]
   have hall := (qfg _ e).1 hz
   have herr : ∀ x ∈ e,qpX (qh9 e x) = 0 := by
    intro x hx
    have := hall x hx
    unfold qc2 at this
    split at this
    ·cases this
    ·exact this
   have hb : ∀ x ∈ e,qsv x := by
    intro x hx
    have := qo6 (herr x hx) (by unfold qh9; rw [List.length_map]; have := qro e hT x hx; omega)
    unfold qsv
    unfold qh9 at this
    dsimp only at this
    omega
   have htw := qt3 hL hC.f232 hC.f195 e hl hf hb ps hps
   cases hw : qir e ps with
   | true =>
     rw [hw] at htw
     rw [if_pos rfl]
     unfold fn165
     simp -implicitDefEqProofs only [qal,qad,qae,qab,qar,qac,qah,aOp,opd,qai,qam,qaB,qaf,qbc,qcg,qba,qak,qay,leaf,qbw,qaQ,qan,qaw,qaF,qaU,qa1,qag,qaG,qat,qaH,qa3,ren,renC,qbh,qbZ,qcf,qbY,qbu,qbz,qbg,qaa,qbU,qas,qaV,qax,qau,beq_self_eq_true,Option.getD_some,List.map_cons,List.map_nil,List.flatMap_cons,List.flatMap_nil,List.length_cons,List.length_nil,List.length_map,List.nil_append,List.append_nil,List.getElem?_cons_zero,List.getElem?_cons_succ,List.set_cons_zero,List.take_succ_cons,List.take_nil,List.all_cons,List.all_nil,↓reduceIte,Bool.and_true,Bool.not_true,Bool.false_eq_true,false_and,decide_false,and_self,Nat.le_refl,reduceCtorEq,Nat.zero_add,Nat.reduceEqDiff,Nat.reduceLT,qb0,qce,qcH,qdj,frz,frzC,qkw,qa5,qaI,qaA,htree,hl0,htw,hdE,qaP L hp,hp,bne]
   | false =>
     rw [hw] at htw
     rw [if_neg (by decide)]
     have hgrow := fun h => hC.grow e h hl hf hT hg
     have hfit : TFit (qdC e) := qoE e hT.ahead hf hb _ (by have := hT.pos; omega)
     have hsz := qip e hT
     have hfl := qo9 (qdC e) ([],[])
     rw [List.length_nil,Nat.zero_add,hsz] at hfl
     have hfree := qrc hL hC.prims hC.f236 hC.f196 hC.f167 (qdC e) hfit (by omega) (by omega)
     have hfo : (qhv (qdC e)).length < 2 ^ 30 := by
      unfold qhv qeS
      rw [qeE,List.length_map]
      omega
     have hl1 := quu hC ps (qhv (qdC e)) hps hfo
     simp only [Int.natCast_zero] at hl1
     generalize qhv (qdC e) = fs at *
     obtain ⟨tc,htc,hdt⟩ := qdz (qdC e)
     rw [htc] at hgrow hfree
     cases hx : fs.any fun n => !qqr ps n with
     | true =>
       simp only [hx,if_true] at hl1
       rw [if_pos rfl]
       unfold fn165
       simp -implicitDefEqProofs only [qal,qad,qae,qab,qac,qah,aOp,opd,qai,qam,qaB,qaf,qbc,qcg,qba,qak,qay,leaf,qbw,qaQ,qan,qaw,qaF,qaU,qa1,qag,qaG,qat,qaH,qa3,ren,renC,qbh,qbZ,qcf,qbY,qbu,qbz,qbW,qbg,qaa,qbU,qas,qaV,qax,qau,beq_self_eq_true,Option.getD_some,List.map_cons,List.map_nil,List.flatMap_cons,List.flatMap_nil,List.length_cons,List.length_nil,List.length_map,List.nil_append,List.append_nil,List.getElem?_cons_zero,List.getElem?_cons_succ,List.set_cons_zero,List.take_succ_cons,List.take_nil,List.all_cons,List.all_nil,↓reduceIte,Bool.and_true,Bool.not_true,Bool.false_eq_true,false_and,decide_false,and_self,Nat.le_refl,reduceCtorEq,Nat.zero_add,Nat.reduceEqDiff,Nat.reduceLT,qaZ,qb0,qce,qcH,qdj,frz,frzC,qkw,qa5,qaI,qaA,htree,hl0,htw,hgrow,hfree,hl1,hdE,hdt,qbW,qaP L hp,hp,bne]
     | false =>
       simp only [hx,Bool.false_eq_true,if_false] at hl1
       rw [if_neg (by decide)]
       unfold fn165
       simp -implicitDefEqProofs only [qal,qad,qae,qab,qar,qac,qah,aOp,opd,qai,qam,qaB,qaf,qbc,qcg,qba,qak,qay,leaf,qbw,qaQ,qan,qaw,qaF,qaU,qa1,qag,qaG,qat,qaH,qa3,ren,renC,qbh,qbZ,qcf,qbY,qbu,qbz,qbW,qbg,qaa,qbU,qas,qaV,qax,qau,beq_self_eq_true,Option.getD_some,List.map_cons,List.map_nil,List.flatMap_cons,List.flatMap_nil,List.length_cons,List.length_nil,List.length_map,List.nil_append,List.append_nil,List.getElem?_cons_zero,List.getElem?_cons_succ,List.set_cons_zero,List.take_succ_cons,List.take_nil,List.all_cons,List.all_nil,↓reduceIte,Bool.and_true,Bool.not_true,Bool.false_eq_true,false_and,decide_false,and_self,Nat.le_refl,reduceCtorEq,Nat.zero_add,Nat.reduceEqDiff,Nat.reduceLT,qaZ,qb0,qce,qcH,qdj,frz,frzC,qkw,qa5,qaI,qaA,htree,hl0,htw,hgrow,hfree,hl1,hdE,hdt,qbW,qaP L hp,hp,bne]
  ·rw [if_neg hz] at hl0
   rw [if_pos hz]
   generalize qct (e.map fun x => qc2 flat (qh9 e x)) = r at *
   unfold fn165
   simp -implicitDefEqProofs only [qal,qad,qae,qab,qac,qah,aOp,opd,qai,qam,qaB,qaf,qbc,qcg,qba,qak,qay,leaf,qbw,qaQ,qan,qaw,qaF,qaU,qa1,qag,qaG,qat,qaH,qa3,ren,renC,qbh,qbZ,qcf,qbY,qbu,qbz,qbg,qaa,qbU,qas,qaV,qax,qau,beq_self_eq_true,Option.getD_some,List.map_cons,List.map_nil,List.flatMap_cons,List.flatMap_nil,List.length_cons,List.length_nil,List.length_map,List.nil_append,List.append_nil,List.getElem?_cons_zero,List.getElem?_cons_succ,List.set_cons_zero,List.take_succ_cons,List.take_nil,List.all_cons,List.all_nil,↓reduceIte,Bool.and_true,Bool.not_true,Bool.false_eq_true,false_and,decide_false,and_self,Nat.le_refl,reduceCtorEq,Nat.zero_add,Nat.reduceEqDiff,Nat.reduceLT,qb0,qce,qcH,qdj,frz,frzC,qkw,qa5,qaI,qaA,htree,hl0,hdE,qaP L hp,hp,bne]
 ·have hz' : (qfy e == 0) = false := by simpa using ht
  rw [if_pos ht]
  unfold fn165
  simp -implicitDefEqProofs only [qad,qae,qab,qar,qac,qah,aOp,opd,qai,qam,qaf,qbc,qba,qak,qay,qbw,qaQ,qan,qaw,qaF,qbu,qbz,qaa,qax,qau,Option.getD_some,List.map_cons,List.map_nil,List.length_nil,List.nil_append,List.getElem?_cons_zero,↓reduceIte,Bool.and_true,Bool.not_false,Bool.false_eq_true,and_self,Nat.reduceEqDiff,qa5,qaI,htree,hz',hdE,qaP L hp,hp,bne]
def qcc (e : List CExpr) : Int := qlF e [] false
theorem qlJ (e : List CExpr) (hl : e.length < 2 ^ 30) (hf : ∀ x ∈ e,NodeFit x) (h : Heap) : pcall L 134 [.list (e.map qaO) none] h = some (.val (.int .i64 (qcc e)),h) := by
 have hL := hC.plain
 have hp := hL.pure
 have hdE := qbO e
 refine qb4 hL hC.f134 rfl ?_ h
 have hb := quv hC e hl hf [] (by simp) false
 unfold qcc fn134
 simp -implicitDefEqProofs only [qad,qae,qar,qac,qah,aOp,opd,qai,qam,qaQ,qan,qaw,qaF,qbu,qsn,qaa,qbU,qax,qau,Option.getD_some,List.map_cons,List.map_nil,List.getElem?_cons_zero,↓reduceIte,Bool.and_true,and_self,reduceCtorEq,qa5,hdE,qaP L hp,hp]
 simp only [List.map_nil] at hb
 simp -implicitDefEqProofs only [qai,qbz,↓reduceIte,qaI,hb]
end
end Go.Abs
set_option linter.unusedVariables false
set_option linter.unusedSimpArgs false
set_option maxRecDepth 100000
set_option maxHeartbeats 4000000
namespace Go.Abs
theorem qhT : ∀ (a b : List CTree),qa6 (a ++ b) = qa6 a + qa6 b
 | [],b => by rw [List.nil_append,qa6]; omega
 | x :: a,b => by rw [List.cons_append,qa6,qa6,qhT a b]; omega
theorem qkg : ∀ (ks : List CTree) (b : Nat),(qb3 ks b).length = ks.length
 | [],b => rfl
 | k :: ks,b => by rw [qb3,List.length_cons,qkg ks]; rfl
theorem qkp (ks : List CTree) (j : Nat) : qa6 (ks.take j) ≤ qa6 ks := by
 conv => rhs; rw [← List.take_append_drop j ks,qhT]
 omega
section
variable {L : Lib} (hL : Plain L)
include hL
def hB (op n : Int) (binds : List Int) (outs : List CExpr) (ids : List Int) (j : Nat) : Heap :=
 if j = 0 then [.box [.func 187 [] [.ptr (some (0,0)),.ptr (some (1,0))]],.box [.list [] (some none)],.box [.int .i64 op,.int .i64 n,.list (binds.map qa0) none,.list [] (some none),.list [] (some none)]]
 else [.box [.func 187 [] [.ptr (some (0,0)),.ptr (some (1,0))]],.box [.list (outs.map qaO) (some (some 3))],.box [.int .i64 op,.int .i64 n,.list (binds.map qa0) none,.list (ids.map qa0) (some (some 4)),.list [] (some none)],.tail outs.length 5,.tail j 1]
end
end Go.Abs
