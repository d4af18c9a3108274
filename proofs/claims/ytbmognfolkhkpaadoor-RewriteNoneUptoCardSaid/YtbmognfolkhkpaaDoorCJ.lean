/-
  PARTS OF A PROOF, joined: an abstract machine for quiet code, its evaluation, and what the seat's functions answer on it. Conditions: none.
-/
import Derived.Test.YtbmognfolkhkpaaDoorG
set_option linter.unusedVariables false
set_option linter.unusedSimpArgs false
set_option maxRecDepth 100000
set_option maxHeartbeats 4000000
namespace Go.Abs
abbrev IM (β : Type) := List (Int × β)
section
variable {β : Type} (f : β → AVal)
def qkB (m : IM β) : List (AVal × AVal) := m.map fun p => (.int .i64 p.1,f p.2)
theorem qwN (hf : ∀ b,qa7 (f b) = true) (ρ : Nat → Option Nat) (m : IM β) : qe4 ρ (.map (qkB f m)) = .map (qkB f m) := by
 have h1 : ∀ v : AVal,qa7 v = true → ren ρ v = v := fun v hv => by unfold ren; rw [if_pos hv]
 unfold qe4 qkB
 dsimp only
 rw [List.map_map]
 congr 1
 refine List.map_congr_left fun p _ => ?_
 simp only [Function.comp,h1 _ (hf p.2),h1 (.int .i64 p.1) rfl]
theorem qwC (hf : ∀ b,qa7 (f b) = true) (m : IM β) : qnV (.map (qkB f m)) = [] := by
 have h1 : ∀ v : AVal,qa7 v = true → qbZ v = [] := fun v hv => by unfold qbZ; rw [if_pos hv]
 unfold qnV qkB
 dsimp only
 induction m with
 | nil => rfl
 | cons p m ih =>
   rw [List.map_cons,List.flatMap_cons,h1 _ (hf p.2),h1 (.int .i64 p.1) rfl]
   exact ih
def qcQ (v : Int) : IM β → Option β
 | [] => none
 | p :: m => if v = p.1 then some p.2 else qcQ v m
def qnu (v : Int) (b : β) (m : IM β) : IM β := m.map fun p => if v = p.1 then (v,b) else p
def qlU (v : Int) (b : β) : IM β → IM β
 | [] => [(v,b)]
 | p :: m => if v < p.1 then (v,b) :: p :: m else p :: qlU v b m
def qpx (v : Int) (b : β) (m : IM β) : IM β := if (qcQ v m).isSome = true then qnu v b m else qlU v b m
theorem qh3 {v : Int} {b : β} : ∀ {m : IM β} (i : Nat),qcQ v m = some b → ∃ j,qbE (.int .i64 v) (qkB f m) i = some (some (j,f b))
 | [],i,h => by cases h
 | p :: m,i,h => by
   unfold qcQ at h
   by_cases hv : v = p.1
   ·rw [if_pos hv] at h
    injection h with h
    subst h
    exact ⟨i,by simp [qkB,qbE,qdk,hv]⟩
   ·rw [if_neg hv] at h
    obtain ⟨j,hj⟩ := qh3 (i + 1) h
    have hb : (v == p.1) = false := by simpa using hv
    exact ⟨j,by rw [← hj]; simp [qkB,qbE,qdk,hb]⟩
theorem qh2 {v : Int} : ∀ {m : IM β} (i : Nat),qcQ v m = none → qbE (.int .i64 v) (qkB f m) i = some none
 | [],i,h => rfl
 | p :: m,i,h => by
   unfold qcQ at h
   by_cases hv : v = p.1
   ·rw [if_pos hv] at h
    cases h
   ·rw [if_neg hv] at h
    have hb : (v == p.1) = false := by simpa using hv
    rw [← qh2 (i + 1) h]
    simp [qkB,qbE,qdk,hb]
theorem qo5 (v : Int) (b : β) : ∀ m : IM β,qwm (.int .i64 v) (f b) (qkB f m) = qkB f (qlU v b m)
 | [] => rfl
 | p :: m => by
   unfold qlU qkB
   rw [List.map_cons,qwm]
   simp only [qwE,decide_eq_true_eq]
   by_cases h : v < p.1
   ·rw [if_pos h,if_pos h]
    rfl
   ·rw [if_neg h,if_neg h,List.map_cons]
    exact congrArg _ (qo5 v b m)
theorem qsS (v : Int) (b : β) (m : IM β) : qwa (.int .i64 v) (f b) (qkB f m) = qkB f (qnu v b m) := by
 unfold qwa qkB qnu
 rw [List.map_map,List.map_map]
 refine List.map_congr_left fun p _ => ?_
 simp only [Function.comp,qdk,if_true,Option.some.injEq,beq_iff_eq]
 by_cases h : v = p.1
 ·rw [if_pos h,if_pos h]
 ·rw [if_neg h,if_neg h]
theorem qrw (h : Heap) (r : Nat) (zero : AVal) (ok : Bool) (v : Int) (m : IM β) (hr : h[r]? = some (.map (qkB f m))) :
  qhU h .int zero ok (.map (some r)) (.int .i64 v) = some (match qcQ v m with | some b => (if ok = true then .tuple [f b,.bool true] else f b) | none => (if ok = true then .tuple [zero,.bool false] else zero)) := by
 unfold qhU qm9
 rw [if_pos (show qdl .int (.int .i64 v) = true from rfl)]
 dsimp only
 rw [hr]
 dsimp only
 cases hq : qcQ v m with
 | some b =>
   obtain ⟨j,hj⟩ := qh3 f 0 hq
   rw [hj]
 | none => rw [qh2 f 0 hq]
theorem qw7 (h : Heap) (r : Nat) (v : Int) (b : β) (m : IM β) (hw : wipe (f b) = f b) (hr : h[r]? = some (.map (qkB f m))) :
  qej h .int (.map (some r)) (.int .i64 v) (f b) = some (h.set r (.map (qkB f (qpx v b m)))) := by
 unfold qej qpx
 dsimp only
 rw [hr]
 dsimp only
 rw [if_pos (show qdl .int (.int .i64 v) = true from rfl),hw]
 cases hq : qcQ v m with
 | some c =>
   obtain ⟨j,hj⟩ := qh3 f 0 hq
   rw [hj]
   simp only [Option.isSome_some,if_true,qsS]
 | none =>
   rw [qh2 f 0 hq]
   simp only [Option.isSome_none,Bool.false_eq_true,if_false,qo5]
theorem qmH (v w : Int) (b : β) : ∀ m : IM β,qcQ w m = none → qcQ v (qlU w b m) = if v = w then some b else qcQ v m
 | [],_ => by simp [qlU,qcQ]
 | p :: m,h => by
   unfold qcQ at h
   have hw : ¬ w = p.1 := by
    intro e
    rw [if_pos e] at h
    cases h
   rw [if_neg hw] at h
   have ih := qmH v w b m h
   unfold qlU
   by_cases hlt : w < p.1
   ·rw [if_pos hlt]
    simp only [qcQ]
   ·rw [if_neg hlt]
    simp only [qcQ]
    rw [ih]
    by_cases h1 : v = p.1
    ·have : ¬ v = w := by omega
     rw [if_pos h1,if_neg this,if_pos h1]
    ·rw [if_neg h1,if_neg h1]
theorem qjM (v w : Int) (b : β) : ∀ m : IM β,(qcQ w m).isSome = true → qcQ v (qnu w b m) = if v = w then some b else qcQ v m
 | [],h => by cases h
 | p :: m,h => by
   unfold qnu
   rw [List.map_cons]
   by_cases hw : w = p.1
   ·rw [if_pos hw]
    simp only [qcQ]
    by_cases hv : v = w
    ·rw [if_pos hv,if_pos hv]
    ·rw [if_neg hv,if_neg hv,if_neg (by omega)]
     by_cases hs : (qcQ w m).isSome = true
     ·have := qjM v w b m hs
      unfold qnu at this
      rw [this,if_neg hv]
     ·have : m.map (fun p => if w = p.1 then (w,b) else p) = m := by
       have hn : ∀ q ∈ m,¬ w = q.1 := by
        clear h
        induction m with
        | nil => simp
        | cons q m ih =>
          intro x hx
          unfold qcQ at hs
          by_cases hq : w = q.1
          ·rw [if_pos hq] at hs; exact absurd rfl hs
          ·rw [if_neg hq] at hs
           rcases List.mem_cons.1 hx with rfl | hx
           ·exact hq
           ·exact ih hs x hx
       have h2 : m.map (fun p => if w = p.1 then (w,b) else p) = m.map id := List.map_congr_left fun q hq => if_neg (hn q hq)
       rw [h2,List.map_id]
      rw [this]
   ·rw [if_neg hw]
    unfold qcQ at h
    rw [if_neg hw] at h
    have := qjM v w b m h
    unfold qnu at this
    simp only [qcQ]
    rw [this]
    by_cases h1 : v = p.1
    ·rw [if_pos h1,if_neg (by omega),if_pos h1]
    ·rw [if_neg h1,if_neg h1]
theorem qjL (v w : Int) (b : β) (m : IM β) : qcQ v (qpx w b m) = if v = w then some b else qcQ v m := by
 unfold qpx
 by_cases h : (qcQ w m).isSome = true
 ·rw [if_pos h,qjM v w b m h]
 ·rw [if_neg h,qmH v w b m (by simpa using h)]
end
abbrev encU : IM Unit → List (AVal × AVal) := qkB fun _ => .agg []
def qdS (_ : Nat) (s : IM Unit) (n : Int) : Except Unit (IM Unit) := if (qcQ n s).isSome = true then .error () else .ok (qpx n () s)
theorem qtX (ns : List Int) : ∀ (i : Nat) (s : IM Unit),(∃ u,qcl qdS ns i s = .error u) ↔ ¬ (ns.Nodup ∧ ∀ n ∈ ns,qcQ n s = none) := by
 induction ns with
 | nil => intro i s; simp [qcl]
 | cons n ns ih =>
   intro i s
   rw [qcl]
   unfold qdS
   by_cases h : (qcQ n s).isSome = true
   ·rw [if_pos h]
    simp only [List.forall_mem_cons]
    constructor
    ·intro _ hx
     rw [hx.2.1] at h
     cases h
    ·intro _; simp
   ·rw [if_neg h]
    dsimp only
    have h' : qcQ n s = none := by simpa using h
    have := ih (i + 1) (qpx n () s)
    unfold qdS at this
    rw [this]
    simp only [qjL,List.nodup_cons,List.forall_mem_cons]
    apply not_congr
    constructor
    ·rintro ⟨h1,h2⟩
     refine ⟨⟨?_,h1⟩,h',?_⟩
     ·intro hm
      have := h2 n hm
      rw [if_pos rfl] at this
      cases this
     ·intro m hm
      have := h2 m hm
      by_cases e : m = n
      ·rw [if_pos e] at this; cases this
      ·rwa [if_neg e] at this
    ·rintro ⟨⟨h1,h2⟩,_,h4⟩
     refine ⟨h2,fun m hm => ?_⟩
     rw [if_neg (fun e : m = n => h1 (e ▸ hm))]
     exact h4 m hm
theorem qbM (s : IM Unit) : qnV (.map (encU s)) = [] := qwC _ (fun _ => rfl) s
theorem qbN (ρ : Nat → Option Nat) (s : IM Unit) : qe4 ρ (.map (encU s)) = .map (encU s) := qwN _ (fun _ => rfl) ρ s
section
variable {L : Lib} (hL : Plain L)
def qnP (E : AVal) (s : IM Unit) (ns : List Int) (j : Nat) : St := ⟨kt [0,5,18,19,20] [E,.map (some 0),.list (ns.map qa0) none,.int .i64 ns.length,.int .i64 j],[.map (encU s)]⟩
def qnQ (E : AVal) (v : AVal) (s : IM Unit) : St := ⟨kt [0,4,5] [E,v,.map (some 0)],[.map (encU s)]⟩
theorem qt1 (E : AVal) (hE : qa7 E = true) (ns : List Int) (hl : ns.length < 2 ^ 30) (s0 : IM Unit) :
  (∀ s,qcl qdS ns 0 s0 = .ok s → True ∧ qb1 L.pure (call L) 1 [0,5,18,19,20] [0,4,5] 0 qgl (qnP E s0 ns 0) = some (.normal,qnQ E .junk s)) ∧
  (∀ u,qcl qdS ns 0 s0 = .error u → ∃ R,(∃ s,R = qnQ E (.bool true) s) ∧ qb1 L.pure (call L) 1 [0,5,18,19,20] [0,4,5] 0 qgl (qnP E s0 ns 0) = some (.ret,R)) := by
 refine qdn ns qdS (fun s j => qnP E s ns j) (qnQ E .junk) (fun _ R => ∃ s,R = qnQ E (.bool true) s) (fun _ _ => True) s0 trivial ?_ ?_ ?_
 ·intro i hi s s' _ hq
  obtain ⟨h1,h2,h3⟩ := qbx qa0 ns hl i hi
  refine ⟨?_,trivial⟩
  unfold qdS at hq
  split at hq
  ·cases hq
  ·rename_i hn
   injection hq with hq
   subst hq
   generalize ns[i] = n at *
   have hf : qcQ n s = none := by simpa using hn
   have hlk := fun (h : Heap) (hr : h[0]? = some (.map (encU s))) => qrw (fun _ : Unit => AVal.agg []) h 0 (.agg []) true n s hr
   have hup := fun (h : Heap) (hr : h[0]? = some (.map (encU s))) => qw7 (fun _ : Unit => AVal.agg []) h 0 n () s rfl hr
   rw [hf] at hlk
   unfold qgl qnP
   simp -implicitDefEqProofs only [qal,qad,qae,qab,qaj,qac,qah,aOp,opd,qai,qa2,qaB,qaf,qaW,qbc,qba,qap,qak,qay,qbv,qcG,qaq,qaJ,qaS,qa1,qag,qaG,qat,qaD,qaH,qa3,ren,renC,qbZ,qcf,qaa,qas,qbP,Option.map_some,List.map_cons,List.map_nil,List.flatMap_cons,List.flatMap_nil,List.length_cons,List.length_nil,List.cons_append,List.nil_append,List.append_nil,List.getElem?_cons_zero,List.getElem?_cons_succ,List.set_cons_zero,List.set_cons_succ,List.take_succ_cons,List.take_zero,List.take_nil,List.drop_nil,List.all_nil,List.not_mem_nil,↓reduceIte,Bool.false_eq_true,and_true,not_false_eq_true,decide_true,decide_false,and_self,Nat.le_refl,reduceCtorEq,Nat.add_zero,Nat.zero_add,Nat.reduceEqDiff,Nat.reduceAdd,Nat.reduceLT,Nat.reduceLeDiff,Int.toNat_natCast,Int.natCast_nonneg,qaz,qaZ,qcb,qaA,h1,h2,h3,hlk,hup,hE,qbM,qbN]
 ·intro i hi s u _ hq
  obtain ⟨h1,h2,h3⟩ := qbx qa0 ns hl i hi
  refine ⟨_,⟨s,rfl⟩,?_⟩
  unfold qdS at hq
  split at hq
  ·rename_i hn
   generalize ns[i] = n at *
   obtain ⟨x,hf⟩ := Option.isSome_iff_exists.1 hn
   have hlk := fun (h : Heap) (hr : h[0]? = some (.map (encU s))) => qrw (fun _ : Unit => AVal.agg []) h 0 (.agg []) true n s hr
   rw [hf] at hlk
   unfold qgl qnP qnQ
   simp -implicitDefEqProofs only [qal,qad,qae,qab,qaj,qar,qac,qah,aOp,opd,qai,qa2,qaB,qaf,qaW,qbc,qba,qap,qak,qay,qbv,qaq,qaJ,qaS,gcE,qa1,qag,qaG,qat,qaD,qaH,qa3,ren,renC,qbZ,qcf,qbU,qbP,List.map_cons,List.map_nil,List.flatMap_cons,List.flatMap_nil,List.length_cons,List.length_nil,List.cons_append,List.nil_append,List.append_nil,List.getElem?_cons_zero,List.getElem?_cons_succ,List.set_cons_zero,List.set_cons_succ,List.take_succ_cons,List.take_zero,List.take_nil,List.drop_nil,List.all_nil,List.not_mem_nil,↓reduceIte,Bool.false_eq_true,and_true,not_false_eq_true,decide_true,decide_false,and_self,Nat.le_refl,reduceCtorEq,Nat.add_zero,Nat.zero_add,Nat.reduceEqDiff,Nat.reduceAdd,Nat.reduceLT,Nat.reduceLeDiff,Int.toNat_natCast,Int.natCast_nonneg,qaz,qaZ,qcb,h1,h2,h3,hlk,hE,qbM,qbN]
  ·cases hq
 ·intro s _
  have h0 := qbC ns.length
  unfold qgl qnP qnQ
  simp -implicitDefEqProofs only [qad,qae,qab,qbo,qac,qah,aOp,opd,qai,qaB,qaf,qbc,qba,qak,gcE,qa1,qag,qaG,qat,qaD,qaH,qa3,ren,renC,qbZ,qcf,qbP,qbV,List.map_cons,List.map_nil,List.flatMap_cons,List.flatMap_nil,List.length_cons,List.length_nil,List.nil_append,List.append_nil,List.take_succ_cons,List.take_nil,List.not_mem_nil,↓reduceIte,Bool.false_eq_true,and_true,not_false_eq_true,decide_false,Nat.le_refl,reduceCtorEq,Nat.zero_add,Nat.reduceEqDiff,Nat.reduceLT,Nat.reduceLeDiff,qaz,qaZ,h0,hE,qbM,qbN]
def qcz (x : CExpr) : List Int := qeN x.op x.binds x.alts
def qsv (x : CExpr) : Prop := (x.binds ++ x.alts.flatMap (·.binds)).length < 2 ^ 30
def qnR (e : List CExpr) (x : CExpr) (i : Nat) (ns : List Int) (s : IM Unit) (j : Nat) : St := ⟨kt [5,35,36,37,50,51,52] [.map (some 0),.list (e.map qaO) none,.int .i64 e.length,.int .i64 i,.list (ns.map qa0) none,.int .i64 ns.length,.int .i64 j],
 [.map (encU s),.box [.int .i64 x.op,.int .i64 x.n,.list (x.binds.map qa0) none,.list (x.kids.map qa0) none,.list (x.alts.map qaY) none],.gone]⟩
def qnS (e : List CExpr) (x : CExpr) (i : Nat) (v : AVal) (s : IM Unit) : St := ⟨kt [4,5,35,36,37] [v,.map (some 0),.list (e.map qaO) none,.int .i64 e.length,.int .i64 i],
 [.map (encU s),.box [.int .i64 x.op,.int .i64 x.n,.list (x.binds.map qa0) none,.list (x.kids.map qa0) none,.list (x.alts.map qaY) none],.gone]⟩
theorem qpC (e : List CExpr) (x : CExpr) (i : Nat) (ns : List Int) (hl : ns.length < 2 ^ 30) (s0 : IM Unit) :
  (∀ s,qcl qdS ns 0 s0 = .ok s → True ∧ qb1 L.pure (call L) 3 [5,35,36,37,50,51,52] [4,5,35,36,37] 4 qgm (qnR e x i ns s0 0) = some (.normal,qnS e x i .junk s)) ∧
  (∀ u,qcl qdS ns 0 s0 = .error u → ∃ R,(∃ s,R = qnS e x i (.bool true) s) ∧ qb1 L.pure (call L) 3 [5,35,36,37,50,51,52] [4,5,35,36,37] 4 qgm (qnR e x i ns s0 0) = some (.ret,R)) := by
 have hdE := qbO e
 refine qdn ns qdS (fun s j => qnR e x i ns s j) (qnS e x i .junk) (fun _ R => ∃ s,R = qnS e x i (.bool true) s) (fun _ _ => True) s0 trivial ?_ ?_ ?_
 ·intro j hj s s' _ hq
  obtain ⟨h1,h2,h3⟩ := qbx qa0 ns hl j hj
  refine ⟨?_,trivial⟩
  unfold qdS at hq
  split at hq
  ·cases hq
  ·rename_i hn
   injection hq with hq
   subst hq
   generalize ns[j] = n at *
   have hf : qcQ n s = none := by simpa using hn
   have hlk := fun (h : Heap) (hr : h[0]? = some (.map (encU s))) => qrw (fun _ : Unit => AVal.agg []) h 0 (.agg []) true n s hr
   have hup := fun (h : Heap) (hr : h[0]? = some (.map (encU s))) => qw7 (fun _ : Unit => AVal.agg []) h 0 n () s rfl hr
   rw [hf] at hlk
   unfold qgm qnR
   simp -implicitDefEqProofs only [qal,qad,qae,qab,qaj,qac,qah,aOp,opd,qai,qa2,qaB,qaf,qaW,qbc,qba,qap,qak,qay,qbv,qcG,qaq,qaJ,qaS,qa1,qag,qaG,qat,qaD,qaH,qa3,ren,renC,qbh,qbm,qbZ,qcf,qbY,qbl,qaa,qas,qbP,Option.map_some,List.map_cons,List.map_nil,List.flatMap_cons,List.flatMap_nil,List.length_cons,List.length_nil,List.cons_append,List.nil_append,List.append_nil,List.getElem?_cons_zero,List.getElem?_cons_succ,List.set_cons_zero,List.set_cons_succ,List.take_succ_cons,List.take_zero,List.take_nil,List.drop_nil,List.all_nil,List.not_mem_nil,↓reduceIte,Bool.false_eq_true,and_true,not_false_eq_true,decide_true,decide_false,and_self,Nat.le_refl,Nat.add_zero,Nat.zero_add,Nat.reduceEqDiff,Nat.reduceAdd,Nat.reduceLT,Nat.reduceLeDiff,Int.toNat_natCast,Int.natCast_nonneg,qaz,qaZ,qcb,qaA,qaN,h1,h2,h3,hlk,hup,hdE,qbM,qbN]
 ·intro j hj s u _ hq
  obtain ⟨h1,h2,h3⟩ := qbx qa0 ns hl j hj
  refine ⟨_,⟨s,rfl⟩,?_⟩
  unfold qdS at hq
  split at hq
  ·rename_i hn
   generalize ns[j] = n at *
   obtain ⟨y,hf⟩ := Option.isSome_iff_exists.1 hn
   have hlk := fun (h : Heap) (hr : h[0]? = some (.map (encU s))) => qrw (fun _ : Unit => AVal.agg []) h 0 (.agg []) true n s hr
   rw [hf] at hlk
   unfold qgm qnR qnS
   simp -implicitDefEqProofs only [qal,qad,qae,qab,qaj,qar,qac,qah,aOp,opd,qai,qa2,qaB,qaf,qaW,qbc,qba,qap,qak,qay,qbv,qaq,qaJ,qaS,gcE,qa1,qag,qaG,qat,qaD,qaH,qa3,ren,renC,qbh,qbm,qbZ,qcf,qbY,qbl,qaa,qbU,qas,qbP,List.map_cons,List.map_nil,List.flatMap_cons,List.flatMap_nil,List.length_cons,List.length_nil,List.cons_append,List.nil_append,List.append_nil,List.getElem?_cons_zero,List.getElem?_cons_succ,List.set_cons_zero,List.set_cons_succ,List.take_succ_cons,List.take_zero,List.take_nil,List.drop_nil,List.all_nil,List.not_mem_nil,↓reduceIte,Bool.false_eq_true,and_true,not_false_eq_true,decide_true,decide_false,and_self,Nat.le_refl,Nat.add_zero,Nat.zero_add,Nat.reduceEqDiff,Nat.reduceAdd,Nat.reduceLT,Nat.reduceLeDiff,Int.toNat_natCast,Int.natCast_nonneg,qaz,qaZ,qcb,qaA,qaN,h1,h2,h3,hlk,hdE,qbM,qbN]
  ·cases hq
 ·intro s _
  have h0 := qbC ns.length
  unfold qgm qnR qnS
  simp -implicitDefEqProofs only [qad,qae,qab,qbo,qac,qah,aOp,opd,qai,qaB,qaf,qbc,qba,qak,gcE,qa1,qag,qaG,qat,qaD,qaH,qa3,ren,renC,qbh,qbm,qbZ,qcf,qbY,qbl,qaa,qas,qbP,qbV,List.map_cons,List.map_nil,List.flatMap_cons,List.flatMap_nil,List.length_cons,List.length_nil,List.nil_append,List.append_nil,List.take_succ_cons,List.take_nil,List.not_mem_nil,↓reduceIte,Bool.false_eq_true,and_true,not_false_eq_true,decide_false,Nat.le_refl,Nat.zero_add,Nat.reduceEqDiff,Nat.reduceAdd,Nat.reduceLT,Nat.reduceLeDiff,qaz,qaZ,qaA,qaN,h0,hdE,qbM,qbN]
theorem qrC (op : Int) (binds : List Int) (as : List CAlt) : (qeN op binds as).length ≤ (binds ++ as.flatMap (·.binds)).length := by
 unfold qeN
 rw [List.length_append,List.length_append]
 split <;> simp
theorem qxK : encU [] = [] := rfl
include hL
def qnT (e : List CExpr) (s : IM Unit) (i : Nat) : St := ⟨kt [5,35,36,37] [.map (some 0),.list (e.map qaO) none,.int .i64 e.length,.int .i64 i],[.map (encU s)]⟩
def qiQ (_ : Nat) (s : IM Unit) (x : CExpr) : Except Unit (IM Unit) := qcl qdS (qcz x) 0 s
theorem qt2 (h232 : L.fns 232 = some fn232) (e : List CExpr) (hl : e.length < 2 ^ 30) (hf : ∀ x ∈ e,NodeFit x) (hb : ∀ x ∈ e,qsv x) (s0 : IM Unit) :
  (∀ s,qcl qiQ e 0 s0 = .ok s → True ∧ qb1 L.pure (call L) 1 [5,35,36,37] [4] 2 qgn (qnT e s0 0) = some (.normal,⟨kt [4] [.junk],[.map (encU s)]⟩)) ∧
  (∀ u,qcl qiQ e 0 s0 = .error u → ∃ R,(∃ s : IM Unit,R = ⟨kt [4] [.bool true],[.map (encU s)]⟩) ∧ qb1 L.pure (call L) 1 [5,35,36,37] [4] 2 qgn (qnT e s0 0) = some (.ret,R)) := by
 have hp := hL.pure
 have hdE := qbO e
 refine qdn e qiQ (qnT e) (fun s => ⟨kt [4] [.junk],[.map (encU s)]⟩) (fun _ R => ∃ s : IM Unit,R = ⟨kt [4] [.bool true],[.map (encU s)]⟩) (fun _ _ => True) s0 trivial ?_ ?_ ?_
 ·intro i hi s s' _ hq
  obtain ⟨h1,h2,h3⟩ := qbx qaO e hl i hi
  refine ⟨?_,trivial⟩
  have hx := hf e[i] (List.getElem_mem hi)
  have hbx := hb e[i] (List.getElem_mem hi)
  generalize e[i] = x at *
  unfold qsv at hbx
  have hbo := qkS hL h232 x.op 0 x.binds (.list [] none) rfl x.alts hx.alts (by omega)
  have hle := qrC x.op x.binds x.alts
  obtain ⟨ha,_⟩ := qpC (L := L) e x i (qcz x) (by unfold qcz; omega) s
  obtain ⟨_,ha⟩ := ha s' hq
  unfold qnR qnS at ha
  unfold qcz at ha
  simp only [Int.natCast_zero] at ha
  unfold qgn qnT
  simp -implicitDefEqProofs only [qal,qad,qae,qab,qaj,qac,qah,aOp,opd,qai,qa2,qaB,qaf,qaW,qbc,qcg,qba,qap,qak,qay,qbv,qbt,qaE,qcG,qc1,leaf,qaq,qaJ,qbw,qaS,qaU,qa1,qag,qaG,qat,qaD,qaH,qa3,ren,renC,qbh,qbm,qbZ,qcf,qbY,qbl,qbW,qbg,qbp,qaa,qas,qaV,qbP,qax,qau,Option.map_some,List.map_cons,List.map_nil,List.flatMap_cons,List.flatMap_nil,List.length_cons,List.length_nil,List.length_map,List.cons_append,List.nil_append,List.append_nil,List.getElem?_cons_zero,List.getElem?_cons_succ,List.set_cons_zero,List.set_cons_succ,List.take_succ_cons,List.take_zero,List.drop_succ_cons,List.drop_zero,List.take_nil,List.drop_nil,List.all_cons,List.all_nil,List.not_mem_nil,↓reduceIte,Bool.and_true,Bool.false_eq_true,and_true,false_and,not_false_eq_true,decide_true,decide_false,and_self,Nat.le_refl,reduceCtorEq,Nat.add_zero,Nat.zero_add,Nat.reduceEqDiff,Nat.reduceAdd,Nat.reduceLT,Nat.reduceLeDiff,Int.toNat_natCast,Int.natCast_nonneg,qaz,qaZ,qb0,qce,qcH,qdj,frz,frzC,qkw,qbH,qaA,qaN,h1,h2,h3,hbo,ha,hdE,qbM,qbN,qaP L hp,hp]
 ·intro i hi s u _ hq
  obtain ⟨h1,h2,h3⟩ := qbx qaO e hl i hi
  have hx := hf e[i] (List.getElem_mem hi)
  have hbx := hb e[i] (List.getElem_mem hi)
  generalize e[i] = x at *
  unfold qsv at hbx
  have hbo := qkS hL h232 x.op 0 x.binds (.list [] none) rfl x.alts hx.alts (by omega)
  have hle := qrC x.op x.binds x.alts
  obtain ⟨_,ha⟩ := qpC (L := L) e x i (qcz x) (by unfold qcz; omega) s
  obtain ⟨R,⟨t,rfl⟩,ha⟩ := ha u hq
  refine ⟨_,⟨t,rfl⟩,?_⟩
  unfold qnR qnS at ha
  unfold qcz at ha
  simp only [Int.natCast_zero] at ha
  unfold qgn qnT
  simp -implicitDefEqProofs only [qal,qad,qae,qab,qaj,qac,qah,aOp,opd,qai,qa2,qaB,qaf,qaW,qbc,qcg,qba,qap,qak,qay,qbv,qbt,qaE,qcG,qc1,leaf,qaq,qaJ,qbw,qaS,qaU,gcE,qa1,qag,qaG,qat,qaD,qaH,qa3,ren,renC,qbh,qbm,qbZ,qcf,qbY,qbl,qbW,qbg,qbp,qaa,qbU,qas,qaV,qbP,qax,qau,Option.map_some,List.map_cons,List.map_nil,List.flatMap_cons,List.flatMap_nil,List.length_cons,List.length_nil,List.length_map,List.cons_append,List.nil_append,List.append_nil,List.getElem?_cons_zero,List.getElem?_cons_succ,List.set_cons_zero,List.set_cons_succ,List.take_succ_cons,List.take_zero,List.drop_succ_cons,List.drop_zero,List.take_nil,List.drop_nil,List.all_cons,List.all_nil,List.not_mem_nil,↓reduceIte,Bool.and_true,Bool.false_eq_true,and_true,false_and,not_false_eq_true,decide_true,decide_false,and_self,Nat.le_refl,reduceCtorEq,Nat.add_zero,Nat.zero_add,Nat.reduceEqDiff,Nat.reduceAdd,Nat.reduceLT,Nat.reduceLeDiff,Int.toNat_natCast,Int.natCast_nonneg,qaz,qaZ,qb0,qce,qcH,qdj,frz,frzC,qkw,qbH,qaA,qaN,h1,h2,h3,hbo,ha,hdE,qbM,qbN,qaP L hp,hp]
 ·intro s _
  have h0 := qbC e.length
  unfold qgn qnT
  simp -implicitDefEqProofs only [qad,qae,qab,qbo,qac,qah,aOp,opd,qai,qaB,qaf,qbc,qba,qak,gcE,qa1,qag,qaG,qat,qaH,qa3,ren,renC,qbZ,qcf,qbV,List.map_cons,List.map_nil,List.flatMap_cons,List.flatMap_nil,List.length_cons,List.length_nil,List.append_nil,List.take_succ_cons,List.take_nil,↓reduceIte,Bool.false_eq_true,decide_false,Nat.le_refl,Nat.zero_add,Nat.reduceEqDiff,qaz,qaZ,h0,hdE,qbM,qbN]
def qir (e : List CExpr) (ps : List Int) : Bool :=
 match qcl qdS ps 0 [] with
 | .error _ => true
 | .ok s => (match qcl qiQ e 0 s with | .error _ => true | .ok _ => false)
theorem qt3 (h232 : L.fns 232 = some fn232) (h195 : L.fns 195 = some fn195) (e : List CExpr) (hl : e.length < 2 ^ 30) (hf : ∀ x ∈ e,NodeFit x) (hb : ∀ x ∈ e,qsv x) (ps : List Int) (hps : ps.length < 2 ^ 30) (h : Heap) :
  pcall L 195 [.list (e.map qaO) none,.list (ps.map qa0) none] h = some (.val (.bool (qir e ps)),h) := by
 have hdE := qbO e
 refine qb4 hL h195 rfl ?_ h
 obtain ⟨ha,hb1⟩ := qt1 (L := L) (.list (e.map qaO) none) (by rw [qaa]; exact hdE) ps hps []
 unfold qir
 cases hq : qcl qdS ps 0 [] with
 | error u =>
   obtain ⟨R,⟨s,rfl⟩,hl0⟩ := hb1 u hq
   unfold qnP qnQ at hl0
   simp only [Int.natCast_zero,qxK] at hl0
   unfold fn195
   simp -implicitDefEqProofs only [qad,qae,qac,qah,aOp,opd,qai,qam,qaB,qaf,qcg,qaQ,qan,qaw,qaF,qaU,qa1,qag,qaG,qat,qaD,qaH,qa3,ren,renC,qhN,qbZ,qcf,qhC,qbi,qaa,qas,qbP,Option.getD_some,List.map_cons,List.map_nil,List.flatMap_cons,List.flatMap_nil,List.length_cons,List.length_nil,List.length_map,List.nil_append,List.append_nil,List.getElem?_cons_zero,List.getElem?_cons_succ,List.take_succ_cons,List.take_nil,List.not_mem_nil,↓reduceIte,Bool.false_eq_true,and_true,not_false_eq_true,decide_false,Nat.le_refl,reduceCtorEq,Nat.zero_add,Nat.reduceEqDiff,Nat.reduceLT,Nat.reduceLeDiff,qaI,qaA,hl0,hdE,qbM,qbN]
 | ok s =>
   obtain ⟨_,hl0⟩ := ha s hq
   unfold qnP qnQ at hl0
   simp only [Int.natCast_zero,qxK] at hl0
   obtain ⟨hc,hd⟩ := qt2 hL h232 e hl hf hb s
   dsimp only
   cases hr : qcl qiQ e 0 s with
   | error u =>
     obtain ⟨R,⟨t,rfl⟩,hl2⟩ := hd u hr
     unfold qnT at hl2
     simp only [Int.natCast_zero] at hl2
     unfold fn195
     simp -implicitDefEqProofs only [qad,qae,qac,qah,aOp,opd,qai,qam,qaB,qaf,qcg,qaQ,qan,qaw,qaF,qaU,qa1,qag,qaG,qat,qaD,qaH,qa3,ren,renC,qhN,qbZ,qcf,qhC,qbi,qaa,qas,qbP,Option.getD_some,List.map_cons,List.map_nil,List.flatMap_cons,List.flatMap_nil,List.length_cons,List.length_nil,List.length_map,List.nil_append,List.append_nil,List.getElem?_cons_zero,List.getElem?_cons_succ,List.take_succ_cons,List.take_nil,List.not_mem_nil,↓reduceIte,Bool.false_eq_true,and_true,not_false_eq_true,decide_false,Nat.le_refl,reduceCtorEq,Nat.zero_add,Nat.reduceEqDiff,Nat.reduceLT,Nat.reduceLeDiff,qaZ,qaI,qaA,hl0,hl2,hdE,qbM,qbN]
   | ok t =>
     obtain ⟨_,hl2⟩ := hc t hr
     unfold qnT at hl2
     simp only [Int.natCast_zero] at hl2
     unfold fn195
     simp -implicitDefEqProofs only [qad,qae,qar,qac,qah,aOp,opd,qai,qam,qaB,qaf,qcg,qaQ,qan,qaw,qaF,qaU,qa1,qag,qaG,qat,qaD,qaH,qa3,ren,renC,qhN,qbZ,qcf,qhC,qbi,qaa,qas,qbP,Option.getD_some,List.map_cons,List.map_nil,List.flatMap_cons,List.flatMap_nil,List.length_cons,List.length_nil,List.length_map,List.nil_append,List.append_nil,List.getElem?_cons_zero,List.getElem?_cons_succ,List.take_succ_cons,List.take_nil,List.not_mem_nil,↓reduceIte,Bool.false_eq_true,and_true,not_false_eq_true,decide_false,Nat.le_refl,reduceCtorEq,Nat.zero_add,Nat.reduceEqDiff,Nat.reduceLT,Nat.reduceLeDiff,qaZ,qaI,qaA,hl0,hl2,hdE,qbM,qbN]
end
section
theorem qqo : ∀ (e : List CExpr) (i j : Nat) (s : IM Unit),qcl qiQ e i s = qcl qdS (e.flatMap qcz) j s := by
 have hidx : ∀ (ns : List Int) (i j : Nat) (s : IM Unit),qcl qdS ns i s = qcl qdS ns j s := by
  intro ns
  induction ns with
  | nil => intros; rfl
  | cons n ns ih =>
    intro i j s
    rw [qcl,qcl]
    have : qdS i s n = qdS j s n := rfl
    rw [this]
    cases qdS j s n with
    | error u => rfl
    | ok t => exact ih _ _ t
 have happ : ∀ (ns ms : List Int) (i : Nat) (s : IM Unit),qcl qdS (ns ++ ms) i s = (match qcl qdS ns i s with | .ok t => qcl qdS ms 0 t | .error u => .error u) := by
  intro ns
  induction ns with
  | nil => intro ms i s; exact hidx ms i 0 s
  | cons n ns ih =>
    intro ms i s
    rw [List.cons_append,qcl,qcl]
    cases qdS i s n with
    | error u => rfl
    | ok t => exact ih ms (i + 1) t
 intro e
 induction e with
 | nil => intros; rfl
 | cons x e ih =>
   intro i j s
   rw [List.flatMap_cons,happ,qcl,hidx _ j 0]
   unfold qiQ
   cases qcl qdS (qcz x) 0 s with
   | error u => rfl
   | ok t => exact ih _ 0 t
theorem qoG (e : List CExpr) : qir e [] = !decide (e.flatMap qcz).Nodup := by
 unfold qir
 have hs := qtX (e.flatMap qcz) 0 []
 rw [← qqo e 0 0 []] at hs
 dsimp only [qcl]
 cases hq : qcl qiQ e 0 [] with
 | error u =>
   have : ¬ (e.flatMap qcz).Nodup := fun h => hs.1 ⟨u,hq⟩ ⟨h,fun _ _ => rfl⟩
   simp [this]
 | ok t =>
   have : (e.flatMap qcz).Nodup := by
    refine Classical.byContradiction fun h => ?_
    obtain ⟨u,hu⟩ := hs.2 fun hx => h hx.1
    rw [hq] at hu
    cases hu
   simp [this]
end
end Go.Abs
set_option linter.unusedVariables false
set_option linter.unusedSimpArgs false
set_option maxRecDepth 100000
set_option maxHeartbeats 4000000
namespace Go.Abs
structure CPrims (L : Lib) (sortI : List Int → List Int) : Prop where
 clone : ∀ (l : List Int) (h : Heap),l.length < 2 ^ 30 → pcall L 188 [.list (l.map qa0) none] h = some (.val (.list (l.map qa0) none),h)
 sort : ∀ (l : List Int),l ≠ [] → l.length < 2 ^ 30 → call L 138 [.vec 0 l.length] [.vec (l.map qa0) 1] = some (.val (.tuple []),[.vec ((sortI l).map qa0) 1])
 sort0 : ∀ h : Heap,pcall L 138 [.list [] none] h = some (.val (.tuple []),h)
def CTree.none : CTree := .mk 0 0 [] [] []
def qed (ts : List CTree) (x : CExpr) : List CTree := ts ++ [.mk x.op x.n x.binds (x.kids.map fun k => ts.getD k.toNat .none) x.alts]
def qd5 (e : List CExpr) : List CTree := e.foldl qed []
def qdC (e : List CExpr) : CTree := (qd5 e).getD (e.length - 1) .none
def qfC (e : List CExpr) : Prop := ∀ (i : Nat) (hi : i < e.length),∀ k ∈ e[i].kids,0 ≤ k ∧ k < i
theorem qlw (cs : List AVal) (n : Nat) : wipeR (.vptr cs n) = .vptr cs n := rfl
theorem qdz (t : CTree) : ∃ tc,qa8 t = .vptr tc 0 ∧ qaX tc = true := by
 have h := qdx t
 cases t
 rw [qcs] at h ⊢
 exact ⟨_,rfl,h⟩
section
variable {L : Lib} (hL : Plain L)
def qkL (x : CExpr) : AObj := .box [.int .i64 x.op,.int .i64 x.n,.list (x.binds.map qa0) none,.list (x.kids.map qa0) none,.list (x.alts.map qaY) none]
include hL
end
section
theorem qiD (e : List CExpr) (i : Nat) (hi : i < e.length) : qd5 (e.take (i + 1)) = qed (qd5 (e.take i)) e[i] := by
 unfold qd5
 rw [List.take_succ_eq_append_getElem hi,List.foldl_append]
 rfl
theorem qgH : ∀ (e : List CExpr) (ts : List CTree),(e.foldl qed ts).length = ts.length + e.length
 | [],ts => rfl
 | x :: e,ts => by
   rw [List.foldl_cons,qgH e]
   simp [qed]
   omega
theorem qok (e : List CExpr) : (qd5 e).length = e.length := by
 unfold qd5
 rw [qgH]
 simp
theorem qiF (e : List CExpr) (i : Nat) (hi : i ≤ e.length) : (qd5 (e.take i)).length = i := by
 rw [qok]
 simp
 omega
variable {L : Lib} (hL : Plain L)
include hL
end
end Go.Abs
