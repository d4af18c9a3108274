/-
  PARTS OF A PROOF, joined: an abstract machine for quiet code, its evaluation, and what the seat's functions answer on it. Conditions: none.
-/
import Derived.Test.YtlielgleabghlaaDoorLawC
/-
  CheckFunctor on the abstract machine. Conditions: none.
-/
set_option linter.unusedVariables false
set_option linter.unusedSimpArgs false
set_option maxRecDepth 100000
set_option maxHeartbeats 4000000
namespace Go.Abs

def fCells (f : SigFunctor) : List AVal := [.str f.name, .list (f.needs.datas.map encData) none, .list (f.needs.vals.map encVal) none, .list (f.yields.datas.map encData) none, .list (f.yields.vals.map encVal) none, .bool f.fresh]
def checkFun (ca : ByteArray → ByteArray → Bool) (f : SigFunctor) : Int :=
  if cutB ca f.name = true then 3 else if check ca f.needs ≠ 0 then check ca f.needs else if check ca f.yields ≠ 0 then check ca f.yields
  else if (f.yields.datas.any fun d => (find f.needs.datas d.name).2) = true then 7 else kindsError f.needs.datas f.yields
def C28 (f : SigFunctor) (i : Nat) : St := ⟨kt [1, 26, 27, 28] [.ptr (some (0, 0)), .list (f.yields.datas.map encData) none, .int .i64 f.yields.datas.length, .int .i64 i],
  [.box [.str f.name, .list (f.needs.datas.map encData) none, .list (f.needs.vals.map encVal) none, .list (f.yields.datas.map encData) none, .list (f.yields.vals.map encVal) none, .bool f.fresh]]⟩

section
variable {L : Lib} {ca : ByteArray → ByteArray → Bool} (X : Sig L ca)
include X
theorem Sig.fun_l0 (f : SigFunctor) (hn : f.needs.datas.length < 2 ^ 30) (hy : f.yields.datas.length < 2 ^ 30) :
    loopF L.pure (call L) 1 [1, 26, 27, 28] [1, 2] 0 fn28_l0 (C28 f 0) = some (if (f.yields.datas.any fun d => (find f.needs.datas d.name).2) = true then (.ret, ⟨kt [1, 2] [.ptr (some (0, 0)), .int .i64 7], (C28 f 0).h⟩) else (.normal, ⟨kt [1, 2] [.ptr (some (0, 0)), .junk], (C28 f 0).h⟩)) := by
  have hp := X.plain.pure
  have hfind := find_ok X.plain X.prims X.f68 X.f67 X.f49 f.needs.datas hn
  refine loopF_any f.yields.datas (fun d => (find f.needs.datas d.name).2) (C28 f) ⟨kt [1, 2] [.ptr (some (0, 0)), .junk], _⟩ ⟨kt [1, 2] [.ptr (some (0, 0)), .int .i64 7], _⟩ ?_ ?_ ?_
  · intro i hi hq
    obtain ⟨h1, h2, h3⟩ := round_facts encData f.yields.datas hy i hi
    have h5 := hfind f.yields.datas[i].name
    rw [hq] at h5
    generalize f.yields.datas[i] = d at *
    unfold fn28_l0 C28
    simp -implicitDefEqProofs only [code_skip, code_ops, code_seq, code_cond, code_block, ops_cons, ops_nil, aOp, opd, upd_at, upd_none, kt_cons, stepVal, stepHeap, aBin, aInt, aIndexList, isShift, aLoad1, aStore, readAt, aField, leaf, acells_agg, cellsSet, gc_mk, gcIds_mk, newIds_nil, newIds_cons, gcMap_at, posOf, ren, renC, renO_box, idsV, idsC, idsO_box, wipe_list, wipe_str, isData_list_none, isData_bool, isData_int, isData_str, isData_ptr, isDataL_nil, isDataL_cons, Option.map_some, List.map_cons, List.map_nil, List.flatMap_cons, List.flatMap_nil, List.length_cons, List.length_nil, List.cons_append, List.nil_append, List.append_nil, List.getElem?_cons_zero, List.getElem?_cons_succ, List.set_cons_zero, List.set_cons_succ, List.take_succ_cons, List.take_zero, List.drop_succ_cons, List.drop_zero, List.take_nil, List.drop_nil, List.all_cons, List.all_nil, List.not_mem_nil, ↓reduceIte, Bool.and_true, Bool.false_eq_true, and_true, not_false_eq_true, decide_true, and_self, Nat.le_refl, Nat.add_zero, Nat.zero_add, Nat.reduceEqDiff, Nat.reduceAdd, Nat.reduceLT, Nat.reduceLeDiff, Int.toNat_natCast, Int.natCast_nonneg, roundF_eq, kt_nil, onlyVal, encData_eq, data_Datas, data_Vals, h1, h2, h3, h5, doCall_p L hp, hp]
  · intro i hi hq
    obtain ⟨h1, h2, h3⟩ := round_facts encData f.yields.datas hy i hi
    have h5 := hfind f.yields.datas[i].name
    rw [hq] at h5
    generalize f.yields.datas[i] = d at *
    unfold fn28_l0 C28
    simp -implicitDefEqProofs only [code_skip, code_ops, code_seq, code_cond, code_block, code_ret, ops_cons, ops_nil, aOp, opd, upd_at, upd_none, kt_cons, stepVal, stepHeap, aBin, aInt, aIndexList, isShift, aLoad1, aStore, readAt, aField, leaf, acells_agg, cellsSet, gcE, gc_mk, gcIds_mk, newIds_nil, newIds_cons, gcMap_at, posOf, ren, renC, renO_box, idsV, idsC, idsO_box, wipe_list, wipe_str, isData_list_none, isData_bool, isData_int, isData_str, isData_ptr, isDataL_nil, isDataL_cons, Option.map_some, List.map_cons, List.map_nil, List.flatMap_cons, List.flatMap_nil, List.length_cons, List.length_nil, List.cons_append, List.nil_append, List.append_nil, List.getElem?_cons_zero, List.getElem?_cons_succ, List.set_cons_zero, List.set_cons_succ, List.take_succ_cons, List.take_zero, List.drop_succ_cons, List.drop_zero, List.take_nil, List.drop_nil, List.all_cons, List.all_nil, List.not_mem_nil, ↓reduceIte, Bool.and_true, Bool.false_eq_true, and_true, not_false_eq_true, decide_true, and_self, Nat.le_refl, Nat.add_zero, Nat.zero_add, Nat.reduceEqDiff, Nat.reduceAdd, Nat.reduceLT, Nat.reduceLeDiff, Int.toNat_natCast, Int.natCast_nonneg, roundF_eq, kt_nil, onlyVal, encData_eq, data_Datas, data_Vals, h1, h2, h3, h5, doCall_p L hp, hp]
  · have h0 : ¬ ((f.yields.datas.length : Int) < f.yields.datas.length) := by omega
    unfold fn28_l0 C28
    simp -implicitDefEqProofs only [code_ops, code_seq, code_cond, code_exit, ops_cons, ops_nil, aOp, opd, upd_at, kt_cons, stepVal, aBin, aInt, isShift, gcE, gc_mk, gcIds_mk, newIds_nil, newIds_cons, gcMap_at, posOf, ren, renC, renO_box, idsV, idsC, idsO_box, isData_list_none, isData_bool, isData_str, isData_ptr, isData_junk, List.map_cons, List.map_nil, List.flatMap_cons, List.flatMap_nil, List.length_cons, List.length_nil, List.append_nil, List.take_succ_cons, List.take_nil, List.not_mem_nil, ↓reduceIte, Bool.false_eq_true, and_true, not_false_eq_true, decide_false, Nat.le_refl, Nat.zero_add, Nat.reduceEqDiff, Nat.reduceLT, Nat.reduceLeDiff, roundF_eq, kt_nil, data_Datas, data_Vals, h0]

theorem Sig.checkFun_ok (f : SigFunctor) (hn : FitSpec f.needs) (hy : FitSpec f.yields) (h : Heap) : pcall L 28 [.agg (fCells f)] h = some (.val (.int .i64 (checkFun ca f)), h) := by
  have hp := X.plain.pure
  have h1 := X.cut f.name
  have h2 := X.check hn
  have h3 := X.check hy
  have h4 := X.fun_l0 f hn.datas hy.datas
  have h5 := X.kinds f.needs.datas hn.datas hy
  unfold C28 at h4
  simp only [Int.natCast_zero] at h4
  unfold fCells checkFun
  refine pcall_fn X.plain X.f28 rfl ?_ h
  unfold fn28
  cases e1 : cutB ca f.name
  · by_cases e2 : Abs.check ca f.needs = 0
    · by_cases e3 : Abs.check ca f.yields = 0
      · cases e4 : f.yields.datas.any (fun d => (find f.needs.datas d.name).2) <;> simp only [e4] at h4 <;>
          simp -implicitDefEqProofs only [code_skip, code_ops, code_seq, code_cond, code_ret, ops_cons, ops_nil, aOp, opd, upd_at, initTm_at, kt_cons, stepVal, aBin, aLen, aInt, isShift, aLoad1, readAt, aField, acells_agg, endFn, aResults, aResult, tupled, code_loopF, gc_mk, gcIds_mk, newIds_nil, newIds_cons, gcMap_at, posOf, ren, renC, renO_box, idsV, idsC, idsO_box, wipe_agg, wipe_list, wipe_str, wipeR_int, wipeC_list, isData_list_none, isData_bool, isData_int, isData_str, isData_agg, isData_ptr, isDataL_nil, isDataL_cons, beq_self_eq_true, Option.map_some, Option.getD_some, List.map_cons, List.map_nil, List.flatMap_cons, List.flatMap_nil, List.length_cons, List.length_nil, List.length_map, List.nil_append, List.append_nil, List.getElem?_cons_zero, List.getElem?_cons_succ, List.take_succ_cons, List.take_zero, List.drop_succ_cons, List.drop_zero, List.take_nil, List.not_mem_nil, ↓reduceIte, Bool.and_true, Bool.not_true, Bool.false_eq_true, and_true, not_true_eq_false, not_false_eq_true, and_self, Nat.le_refl, Nat.add_zero, Nat.zero_add, Nat.reduceEqDiff, Nat.reduceAdd, Nat.reduceLT, Nat.reduceLeDiff, ne_eq, onlyVal, data_Datas, data_Vals, outOf_val, h1, h2, h3, h4, h5, e1, e2, e3, e4, doCall_p L hp, hp, ne_eq, not_true_eq_false, bne]
      · have e3' : (Abs.check ca f.yields == 0) = false := by simpa using e3
        simp -implicitDefEqProofs only [code_skip, code_ops, code_seq, code_cond, code_ret, ops_cons, ops_nil, aOp, opd, upd_at, initTm_at, stepVal, aBin, aInt, isShift, aLoad1, readAt, aField, acells_agg, endFn, aResults, aResult, tupled, wipe_agg, wipe_str, wipeR_int, wipeC_list, isData_list_none, isData_str, isData_agg, isDataL_nil, isDataL_cons, beq_self_eq_true, Option.map_some, Option.getD_some, List.map_cons, List.map_nil, List.length_cons, List.length_nil, List.nil_append, List.getElem?_cons_zero, List.take_succ_cons, List.take_zero, List.drop_succ_cons, List.drop_zero, ↓reduceIte, Bool.and_true, Bool.not_true, Bool.not_false, Bool.false_eq_true, not_true_eq_false, not_false_eq_true, and_self, Nat.add_zero, Nat.zero_add, Nat.reduceEqDiff, Nat.reduceAdd, Nat.reduceLeDiff, ne_eq, onlyVal, data_Datas, data_Vals, outOf_val, h1, h2, h3, e1, e2, e3, e3', doCall_p L hp, hp, ne_eq, not_true_eq_false, not_false_eq_true, bne]
    · have e2' : (Abs.check ca f.needs == 0) = false := by simpa using e2
      simp -implicitDefEqProofs only [code_skip, code_ops, code_seq, code_cond, code_ret, ops_cons, ops_nil, aOp, opd, upd_at, initTm_at, stepVal, aBin, aInt, isShift, aLoad1, readAt, aField, acells_agg, endFn, aResults, aResult, tupled, wipe_agg, wipe_str, wipeR_int, wipeC_list, isData_list_none, isData_str, isData_agg, isDataL_nil, isDataL_cons, Option.map_some, Option.getD_some, List.map_cons, List.map_nil, List.length_cons, List.length_nil, List.nil_append, List.getElem?_cons_zero, List.take_succ_cons, List.take_zero, List.drop_succ_cons, List.drop_zero, ↓reduceIte, Bool.and_true, Bool.not_false, Bool.false_eq_true, not_false_eq_true, and_self, Nat.add_zero, Nat.zero_add, Nat.reduceEqDiff, Nat.reduceAdd, Nat.reduceLeDiff, ne_eq, onlyVal, data_Datas, data_Vals, outOf_val, h1, h2, e1, e2, e2', doCall_p L hp, hp, ne_eq, not_false_eq_true, bne]
  · simp -implicitDefEqProofs only [code_ops, code_seq, code_cond, code_ret, ops_cons, ops_nil, aOp, opd, upd_at, initTm_at, stepVal, aLoad1, aField, acells_agg, endFn, aResults, aResult, tupled, wipe_str, wipeR_int, isData_str, isDataL_nil, isDataL_cons, Option.getD_some, List.map_cons, List.map_nil, List.length_nil, List.nil_append, List.getElem?_cons_zero, ↓reduceIte, Bool.and_true, and_self, Nat.add_zero, Nat.reduceEqDiff, onlyVal, outOf_val, h1, e1, doCall_p L hp, hp]
end
end Go.Abs
/-
  Apply on the abstract machine: the inner loops. Conditions: none.
-/
set_option linter.unusedVariables false
set_option linter.unusedSimpArgs false
set_option maxRecDepth 100000
set_option maxHeartbeats 8000000
namespace Go.Abs

/-- An object that names none. -/
def OldO (o : AObj) : Prop := (∀ ρ, renO ρ o = o) ∧ idsO o = []
theorem old_tail (n sz : Nat) : OldO (.tail n sz) := ⟨fun _ => rfl, rfl⟩
theorem old_box {cs : List AVal} (h : isDataL cs = true) : OldO (.box cs) := by
  have h1 : ∀ cs : List AVal, isDataL cs = true → (∀ ρ, cs.map (ren ρ) = cs) ∧ cs.flatMap idsV = [] := by
    intro cs
    induction cs with
    | nil => intro _; exact ⟨fun _ => rfl, rfl⟩
    | cons c cs ih =>
      intro h
      rw [isDataL, Bool.and_eq_true] at h
      obtain ⟨i1, i2⟩ := ih h.2
      refine ⟨fun ρ => ?_, ?_⟩
      · rw [List.map_cons, i1 ρ]
        unfold ren
        rw [if_pos h.1]
      · rw [List.flatMap_cons, i2]
        unfold idsV
        rw [if_pos h.1]
        rfl
  exact ⟨fun ρ => by rw [renO, (h1 cs h).1 ρ], by rw [idsO, (h1 cs h).2]⟩

/-- What lies ahead: the arguments, the result, what the map keeps. -/
def AP (P : Heap) (ow : Option (Option Nat)) : Prop :=
  ∃ o0 o1 o2 o3, OldO o0 ∧ OldO o1 ∧ OldO o2 ∧ OldO o3 ∧ ((P = [o0, o1, o2] ∧ ow = some none) ∨ (P = [o0, o1, o2, o3] ∧ ow = some (some 3)))
def OwT (x : Nat) (ow : Option (Option Nat)) (T : Heap) (sz : Nat) : Prop := (ow = some none ∧ T = []) ∨ (∃ n, ow = some (some x) ∧ T = [.tail n sz])
theorem own_T (x n sz : Nat) : OwT x (ownAt x n) (tailAt sz n) sz := by
  cases n with
  | zero => exact .inl ⟨rfl, rfl⟩
  | succ n => exact .inr ⟨_, rfl, rfl⟩

def ap0 (l : List SigMap) (P T3 T2 : Heap) (b16 b19 : AObj) (ow ow3 ow2 : Option (Option Nat)) (dv cv dn dp cn : AVal) (outs couts : List AVal) (n i m j : Int) (as aouts : List Ty) (k : Nat) : St :=
  ⟨kt [4, 8, 11, 14, 17, 20, 73, 74, 75, 85, 86, 87, 95, 96, 97] [.ptr (some (0, 0)), .ptr (some (2, 0)), .list (l.map encMap) ow, .ptr (some (P.length, 0)), .ptr (some (P.length + 1 + T3.length + 1, 0)), .ptr (some (P.length + 1 + T3.length + 2 + T2.length + 1, 0)), dv, .int .i64 n, .int .i64 i, cv, .int .i64 m, .int .i64 j, .list (as.map encTy) none, .int .i64 as.length, .int .i64 k],
   P ++ .box [.list outs ow3, .list [] (some none)] :: (T3 ++ b16 :: .box [dn, dp, .list couts ow2] :: (T2 ++ b19 :: .box [cn, .list (aouts.map encTy) (ownAt (P.length + 1 + T3.length + 2 + T2.length + 2) k)] :: tailAt 4 k))⟩

section
variable {L : Lib} {ca : ByteArray → ByteArray → Bool} (X : Sig L ca)
include X
theorem Sig.ap_l0 (l : List SigMap) (hl : l.length < 2 ^ 30) (hok : ∀ m ∈ l, TyOk m.type) {P T3 T2 : Heap} {b16 b19 : AObj} {ow ow3 ow2 : Option (Option Nat)} (hP : AP P ow) (h3 : OwT (P.length + 1) ow3 T3 3) (h2 : OwT (P.length + 1 + T3.length + 2) ow2 T2 2) (h16 : OldO b16) (h19 : OldO b19)
    (dv cv dn dp cn : AVal) (wd : isData dv = true) (wc : isData cv = true) (wn : isData dn = true) (wp : isData dp = true) (we : isData cn = true) (outs couts : List AVal) (wo : isDataL outs = true) (wk : isDataL couts = true) (n i m j : Int) (as : List Ty) (hla : as.length < 2 ^ 30) (hfa : ∀ t ∈ as, TyFit t) :
    loopF L.pure (call L) (P.length + 1 + T3.length + 2 + T2.length + 2) [4, 8, 11, 14, 17, 20, 73, 74, 75, 85, 86, 87, 95, 96, 97] [4, 8, 11, 14, 17, 20, 73, 74, 75, 85, 86, 87] 4 fn26_l0 (ap0 l P T3 T2 b16 b19 ow ow3 ow2 dv cv dn dp cn outs couts n i m j as [] 0) =
    some (.normal, ⟨kt [4, 8, 11, 14, 17, 20, 73, 74, 75, 85, 86, 87] [.ptr (some (0, 0)), .ptr (some (2, 0)), .list (l.map encMap) ow, .ptr (some (P.length, 0)), .ptr (some (P.length + 1 + T3.length + 1, 0)), .ptr (some (P.length + 1 + T3.length + 2 + T2.length + 1, 0)), dv, .int .i64 n, .int .i64 i, cv, .int .i64 m, .int .i64 j],
      (ap0 l P T3 T2 b16 b19 ow ow3 ow2 dv cv dn dp cn outs couts n i m j as (as.map (subst l)) as.length).h⟩) := by
  have hp := X.plain.pure
  obtain ⟨r16, i16⟩ := h16
  obtain ⟨r19, i19⟩ := h19
  obtain ⟨o0, o1, o2, o3, ⟨r0, i0⟩, ⟨r1, i1⟩, ⟨r2, i2⟩, ⟨r3, i3⟩, hP⟩ := hP
  refine loopF_append as (subst l) (ap0 l P T3 T2 b16 b19 ow ow3 ow2 dv cv dn dp cn outs couts n i m j as) _ ?_ ?_
  · intro i hi aouts hlen
    obtain ⟨g1, g2, g3⟩ := round_facts encTy as hla i hi
    have hm : i + 1 ≤ 1073741824 := by omega
    have ih1 := subst_ok X.plain X.f44 X.f15 l hl hok as[i] (hfa _ (List.getElem_mem hi))
    unfold ap0
    cases i with
    | zero =>
      obtain rfl := List.eq_nil_of_length_eq_zero hlen
      have g1 : (0 : Int) < as.length := by omega
      have g2 : IntKind.i64.wrap 1 = 1 := by decide
      generalize as[0] = a at *
      unfold fn26_l0
      rcases hP with ⟨rfl, rfl⟩ | ⟨rfl, rfl⟩ <;> rcases h3 with ⟨rfl, rfl⟩ | ⟨n3, rfl, rfl⟩ <;> rcases h2 with ⟨rfl, rfl⟩ | ⟨n2, rfl, rfl⟩ <;>
        simp -implicitDefEqProofs only [code_skip, code_ops, code_draw, code_seq, code_cond, code_block, ops_cons, ops_nil, aOp, opd, upd_at, upd_none, kt_cons, stepVal, stepHeap, aBin, aInt, aIndexList, isShift, aWanted, aLoad1, aStore, readAt, aField, leaf, acells_agg, acells_list, cellsSet, gc_mk, gcIds_mk, newIds_nil, newIds_cons, gcMap_at, posOf, ren, renC, renO_box, renO_tail, idsV, idsC, idsO_box, idsO_tail, draw_eq, opsH_nil, opsH_cons, isLoud, aAppend, wipe_agg, wipe_list, wipeC_list, wipeC_int, wipeC_str, isData_list_none, isData_list_full, isData_list_tail, isData_int, isData_str, isData_agg, isData_ptr, isDataL_nil, isDataL_cons, Option.map_some, Option.getD_some, List.map_cons, List.map_nil, List.flatMap_cons, List.flatMap_nil, List.length_cons, List.length_nil, List.cons_append, List.nil_append, List.append_nil, List.getElem?_cons_zero, List.getElem?_cons_succ, List.set_cons_zero, List.set_cons_succ, List.take_succ_cons, List.take_zero, List.drop_succ_cons, List.drop_zero, List.take_nil, List.drop_nil, List.all_cons, List.all_nil, List.not_mem_nil, ↓reduceIte, Bool.and_true, Bool.false_eq_true, and_true, not_false_eq_true, decide_true, and_self, Nat.le_refl, Nat.add_zero, Nat.zero_add, Nat.reduceEqDiff, Nat.reduceAdd, Nat.reduceLT, Nat.reduceLeDiff, Int.reduceToNat, Int.reduceLE, List.cons_ne_nil, roundF_eq, maxLen_eq, checksP_nil, drawTo_if, Int.reduceAdd, kt_nil, Int.cast_ofNat_Int, onlyVal, encTy_eq, data_Tys, data_Maps, ownAt_zero, ownAt_succ, tailAt_zero, tailAt_succ, g1, g2, g3, ih1, r0, r1, r2, r3, r16, r19, i0, i1, i2, i3, i16, i19, wd, wc, wn, wp, we, wo, wk, doCall_p L hp, hp]
    | succ i =>
      generalize as[i + 1] = a at *
      unfold fn26_l0
      rcases hP with ⟨rfl, rfl⟩ | ⟨rfl, rfl⟩ <;> rcases h3 with ⟨rfl, rfl⟩ | ⟨n3, rfl, rfl⟩ <;> rcases h2 with ⟨rfl, rfl⟩ | ⟨n2, rfl, rfl⟩ <;>
        simp -implicitDefEqProofs only [code_skip, code_ops, code_draw, code_seq, code_cond, code_block, ops_cons, ops_nil, aOp, opd, upd_at, upd_none, kt_cons, stepVal, stepHeap, aBin, aInt, aIndexList, isShift, aWanted, aLoad1, aStore, readAt, aField, leaf, acells_agg, acells_list, cellsSet, gc_mk, gcIds_mk, newIds_nil, newIds_cons, gcMap_at, posOf, ren, renC, renO_box, renO_tail, idsV, idsC, idsO_box, idsO_tail, draw_eq, opsH_nil, opsH_cons, isLoud, aAppend, wipe_agg, wipe_list, wipeC_list, wipeC_int, wipeC_str, isData_list_none, isData_list_full, isData_list_tail, isData_int, isData_str, isData_agg, isData_ptr, isDataL_nil, isDataL_cons, isDataL_append, Option.map_some, Option.getD_some, List.map_cons, List.map_nil, List.flatMap_cons, List.flatMap_nil, List.length_cons, List.length_nil, List.length_map, List.cons_append, List.nil_append, List.append_nil, List.getElem?_cons_zero, List.getElem?_cons_succ, List.set_cons_zero, List.set_cons_succ, List.take_succ_cons, List.take_zero, List.drop_succ_cons, List.drop_zero, List.take_nil, List.drop_nil, List.all_cons, List.all_nil, List.not_mem_nil, ↓reduceIte, Bool.and_true, Bool.false_eq_true, and_true, not_false_eq_true, decide_true, and_self, Nat.le_refl, Nat.add_zero, Nat.zero_add, Nat.reduceEqDiff, Nat.reduceAdd, Nat.reduceLT, Nat.reduceLeDiff, Int.toNat_natCast, Int.natCast_nonneg, List.cons_ne_nil, roundF_eq, maxLen_eq, checksP_nil, drawTo_if, List.map_append, kt_nil, onlyVal, encTy_eq, data_Tys, data_Maps, all_Tys, ownAt_succ, tailAt_succ, g1, g2, g3, hm, hlen, ih1, r0, r1, r2, r3, r16, r19, i0, i1, i2, i3, i16, i19, wd, wc, wn, wp, we, wo, wk, doCall_p L hp, hp]
  · have h0 : ¬ ((as.length : Int) < as.length) := by omega
    unfold fn26_l0 ap0
    rcases hP with ⟨rfl, rfl⟩ | ⟨rfl, rfl⟩ <;> rcases h3 with ⟨rfl, rfl⟩ | ⟨n3, rfl, rfl⟩ <;> rcases h2 with ⟨rfl, rfl⟩ | ⟨n2, rfl, rfl⟩ <;>
      simp -implicitDefEqProofs only [code_ops, code_seq, code_cond, code_exit, ops_cons, ops_nil, aOp, opd, upd_at, kt_cons, stepVal, aBin, aInt, isShift, gcE, gc_mk, gcIds_mk, newIds_cons, gcMap_at, ren, renC, renO_box, renO_tail, idsV, idsC, idsO_box, idsO_tail, isData_list_full, isData_list_tail, isData_int, isData_ptr, isDataL_nil, List.map_cons, List.map_nil, List.flatMap_cons, List.flatMap_nil, List.length_cons, List.length_nil, List.cons_append, List.nil_append, List.append_nil, List.take_succ_cons, List.take_zero, List.not_mem_nil, ↓reduceIte, Bool.false_eq_true, and_true, not_false_eq_true, decide_false, Nat.add_zero, Nat.zero_add, Nat.reduceEqDiff, Nat.reduceAdd, Nat.reduceLT, Nat.reduceLeDiff, roundF_eq, kt_nil, data_Maps, h0, r0, r1, r2, r3, r16, r19, i0, i1, i2, i3, i16, i19, wd, wc, wn, wp, we, wo, wk] <;>
      (cases as.length with
       | zero => simp -implicitDefEqProofs only [newIds_nil, isData_list_full, List.map_nil, ↓reduceIte, data_Tys, ownAt_zero, tailAt_zero, h0, r0, r1, r2, r3, r16, r19, i0, i1, i2, i3, i16, i19, wd, wc, wn, wp, we, wo, wk]
       | succ z => simp -implicitDefEqProofs only [newIds_nil, newIds_cons, posOf, renO_tail, isData_list_tail, Option.getD_some, List.map_cons, List.map_nil, List.nil_append, List.getElem?_cons_zero, List.getElem?_cons_succ, List.not_mem_nil, ↓reduceIte, Bool.false_eq_true, not_false_eq_true, and_self, Nat.le_refl, Nat.reduceLT, data_Tys, ownAt_succ, tailAt_succ, h0, r0, r1, r2, r3, r16, r19, i0, i1, i2, i3, i16, i19, wd, wc, wn, wp, we, wo, wk])
end
end Go.Abs
/-
  Apply on the abstract machine: the loop over constructors. Conditions: none.
-/
set_option linter.unusedVariables false
set_option linter.unusedSimpArgs false
set_option maxRecDepth 100000
set_option maxHeartbeats 8000000
namespace Go.Abs

def conMap (l : List SigMap) (c : ConSig) : ConSig := ⟨c.name, c.args.map (subst l)⟩
def dataMap (l : List SigMap) (d : DataSig) : DataSig := ⟨d.name, d.params, d.cons.map (conMap l)⟩
def ap1 (l : List SigMap) (P T3 : Heap) (b16 : AObj) (ow ow3 : Option (Option Nat)) (dv dn dp : AVal) (outs : List AVal) (n i : Int) (cs couts : List ConSig) (k : Nat) : St :=
  ⟨kt [4, 8, 11, 14, 17, 73, 74, 75, 85, 86, 87] [.ptr (some (0, 0)), .ptr (some (2, 0)), .list (l.map encMap) ow, .ptr (some (P.length, 0)), .ptr (some (P.length + 1 + T3.length + 1, 0)), dv, .int .i64 n, .int .i64 i, .list (cs.map encCon) none, .int .i64 cs.length, .int .i64 k],
   P ++ .box [.list outs ow3, .list [] (some none)] :: (T3 ++ b16 :: .box [dn, dp, .list (couts.map encCon) (ownAt (P.length + 1 + T3.length + 2) k)] :: tailAt 2 k)⟩

section
variable {L : Lib} {ca : ByteArray → ByteArray → Bool} (X : Sig L ca)
include X
theorem Sig.ap_l1 (l : List SigMap) (hl : l.length < 2 ^ 30) (hok : ∀ m ∈ l, TyOk m.type) {P T3 : Heap} {b16 : AObj} {ow ow3 : Option (Option Nat)} (hP : AP P ow) (h3 : OwT (P.length + 1) ow3 T3 3) (h16 : OldO b16)
    (dv dn dp : AVal) (wd : isData dv = true) (wn : isData dn = true) (wp : isData dp = true) (outs : List AVal) (wo : isDataL outs = true) (n i : Int) (cs : List ConSig) (hlc : cs.length < 2 ^ 30) (hfc : ∀ c ∈ cs, FitCon c) :
    loopF L.pure (call L) (P.length + 1 + T3.length + 2) [4, 8, 11, 14, 17, 73, 74, 75, 85, 86, 87] [4, 8, 11, 14, 17, 73, 74, 75] 2 fn26_l1 (ap1 l P T3 b16 ow ow3 dv dn dp outs n i cs [] 0) =
    some (.normal, ⟨kt [4, 8, 11, 14, 17, 73, 74, 75] [.ptr (some (0, 0)), .ptr (some (2, 0)), .list (l.map encMap) ow, .ptr (some (P.length, 0)), .ptr (some (P.length + 1 + T3.length + 1, 0)), dv, .int .i64 n, .int .i64 i],
      (ap1 l P T3 b16 ow ow3 dv dn dp outs n i cs (cs.map (conMap l)) cs.length).h⟩) := by
  have hp := X.plain.pure
  have hP0 := hP
  have h30 := h3
  obtain ⟨r16, i16⟩ := h16
  obtain ⟨o0, o1, o2, o3, ⟨r0, i0⟩, ⟨r1, i1⟩, ⟨r2, i2⟩, ⟨r3, i3⟩, hP⟩ := hP
  refine loopF_append cs (conMap l) (ap1 l P T3 b16 ow ow3 dv dn dp outs n i cs) _ ?_ ?_
  · intro k hi couts hlen
    obtain ⟨g1, g2, g3⟩ := round_facts encCon cs hlc k hi
    have hm : k + 1 ≤ 1073741824 := by omega
    have hfk := hfc _ (List.getElem_mem hi)
    have hin := X.ap_l0 l hl hok hP0 h30 (own_T (P.length + 1 + T3.length + 2) k 2) ⟨r16, i16⟩ (old_box (cs := [.str cs[k].name, .list (cs[k].args.map encTy) none]) (by simp only [isDataL, isData, data_Tys, Bool.and_self]))
      dv (.list (cs.map encCon) none) dn dp (.str cs[k].name) wd (by rw [isData_list_none, data_Cons]) wn wp rfl outs (couts.map encCon) wo (data_Cons _) n i cs.length k cs[k].args hfk.1 hfk.2
    have hz := own_cases (P.length + 1 + T3.length + 2 + (tailAt 2 k).length + 2) 4 cs[k].args.length
    unfold ap0 at hin
    unfold ap1
    cases k with
    | zero =>
      obtain rfl := List.eq_nil_of_length_eq_zero hlen
      have g1 : (0 : Int) < cs.length := by omega
      have g2 : IntKind.i64.wrap 1 = 1 := by decide
      generalize cs[0] = a at *
      unfold fn26_l1 conMap
      rcases hP with ⟨rfl, rfl⟩ | ⟨rfl, rfl⟩ <;> rcases h3 with ⟨rfl, rfl⟩ | ⟨n3, rfl, rfl⟩ <;> rcases hz with ⟨z1, z2⟩ | ⟨z1, z2⟩ <;>
        simp only [Int.natCast_zero, List.map_nil, List.length_cons, List.length_nil, List.cons_append, List.nil_append, ownAt_zero, tailAt_zero, Nat.zero_add, Nat.add_zero, Nat.reduceAdd] at hin z1 z2 <;> simp only [z1, z2] at hin <;>
        simp -implicitDefEqProofs only [code_skip, code_ops, code_seq, code_cond, code_block, ops_cons, ops_nil, aOp, opd, upd_at, upd_none, kt_cons, stepVal, stepHeap, aBin, aLen, aInt, aIndexList, isShift, aLoad1, aStore, readAt, aField, fillA, known, leaf, acells_agg, acells_str, acells_list, cellsSet, code_loopF, gc_mk, gcIds_mk, newIds_nil, newIds_cons, gcMap_at, posOf, ren, renC, renO_box, renO_tail, idsV, idsC, idsO_box, idsO_tail, aAppend, wipe_agg, wipeC_list, wipeC_str, isData_list_none, isData_list_full, isData_list_tail, isData_int, isData_str, isData_agg, isData_ptr, isDataL_nil, isDataL_cons, Option.map_some, Option.getD_some, List.map_cons, List.map_nil, List.flatMap_cons, List.flatMap_nil, List.length_cons, List.length_nil, List.length_map, List.cons_append, List.nil_append, List.append_nil, List.getElem?_cons_zero, List.getElem?_cons_succ, List.set_cons_zero, List.set_cons_succ, List.take_succ_cons, List.take_zero, List.drop_succ_cons, List.drop_zero, List.take_nil, List.drop_nil, List.all_cons, List.all_nil, List.not_mem_nil, ↓reduceIte, Bool.and_true, Bool.false_eq_true, and_true, not_false_eq_true, decide_true, and_self, Nat.le_refl, Nat.add_zero, Nat.zero_add, Nat.reduceEqDiff, Nat.reduceAdd, Nat.reduceLT, Nat.reduceLeDiff, Int.reduceToNat, Int.reduceLE, List.cons_ne_nil, roundF_eq, maxLen_eq, Int.reduceAdd, kt_nil, Int.cast_ofNat_Int, encCon_eq, data_Tys, data_Cons, data_Maps, ownAt_zero, ownAt_succ, tailAt_zero, tailAt_succ, g1, g2, g3, hin, r0, r1, r2, r3, r16, i0, i1, i2, i3, i16, wd, wn, wp, wo, doCall_p L hp, hp]
    | succ k =>
      generalize cs[k + 1] = a at *
      unfold fn26_l1 conMap
      rcases hP with ⟨rfl, rfl⟩ | ⟨rfl, rfl⟩ <;> rcases h3 with ⟨rfl, rfl⟩ | ⟨n3, rfl, rfl⟩ <;> rcases hz with ⟨z1, z2⟩ | ⟨z1, z2⟩ <;>
        simp only [Int.natCast_zero, List.map_nil, List.length_cons, List.length_nil, List.cons_append, List.nil_append, ownAt_zero, tailAt_zero, ownAt_succ, tailAt_succ, Nat.zero_add, Nat.add_zero, Nat.reduceAdd] at hin z1 z2 <;> simp only [z1, z2] at hin <;>
        simp -implicitDefEqProofs only [code_skip, code_ops, code_seq, code_cond, code_block, ops_cons, ops_nil, aOp, opd, upd_at, upd_none, kt_cons, stepVal, stepHeap, aBin, aLen, aInt, aIndexList, isShift, aLoad1, aStore, readAt, aField, fillA, known, leaf, acells_agg, acells_str, acells_list, cellsSet, code_loopF, gc_mk, gcIds_mk, newIds_nil, newIds_cons, gcMap_at, posOf, ren, renC, renO_box, renO_tail, idsV, idsC, idsO_box, idsO_tail, aAppend, wipe_agg, wipeC_list, wipeC_str, isData_list_none, isData_list_full, isData_list_tail, isData_int, isData_str, isData_agg, isData_ptr, isDataL_nil, isDataL_cons, isDataL_append, Option.map_some, Option.getD_some, List.map_cons, List.map_nil, List.flatMap_cons, List.flatMap_nil, List.length_cons, List.length_nil, List.length_map, List.cons_append, List.nil_append, List.append_nil, List.getElem?_cons_zero, List.getElem?_cons_succ, List.set_cons_zero, List.set_cons_succ, List.take_succ_cons, List.take_zero, List.drop_succ_cons, List.drop_zero, List.take_nil, List.drop_nil, List.all_cons, List.all_nil, List.not_mem_nil, ↓reduceIte, Bool.and_true, Bool.false_eq_true, and_true, not_false_eq_true, decide_true, and_self, Nat.le_refl, Nat.add_zero, Nat.zero_add, Nat.reduceEqDiff, Nat.reduceAdd, Nat.reduceLT, Nat.reduceLeDiff, Int.toNat_natCast, Int.natCast_nonneg, List.cons_ne_nil, roundF_eq, maxLen_eq, List.map_append, kt_nil, encCon_eq, data_Tys, data_Cons, data_Maps, all_Cons, ownAt_succ, tailAt_succ, g1, g2, g3, hm, hlen, hin, r0, r1, r2, r3, r16, i0, i1, i2, i3, i16, wd, wn, wp, wo, doCall_p L hp, hp]
  · have h0 : ¬ ((cs.length : Int) < cs.length) := by omega
    unfold fn26_l1 ap1
    rcases hP with ⟨rfl, rfl⟩ | ⟨rfl, rfl⟩ <;> rcases h3 with ⟨rfl, rfl⟩ | ⟨n3, rfl, rfl⟩ <;>
      (cases cs.length with
       | zero => simp -implicitDefEqProofs only [code_ops, code_seq, code_cond, code_exit, ops_cons, ops_nil, aOp, opd, upd_at, kt_cons, stepVal, aBin, aInt, isShift, gcE, gc_mk, gcIds_mk, newIds_nil, newIds_cons, gcMap_at, posOf, ren, renC, renO_box, renO_tail, idsV, idsC, idsO_box, idsO_tail, isData_list_full, isData_list_tail, isData_int, isData_ptr, isDataL_nil, List.map_cons, List.map_nil, List.flatMap_cons, List.flatMap_nil, List.length_cons, List.length_nil, List.cons_append, List.nil_append, List.append_nil, List.take_succ_cons, List.take_nil, List.not_mem_nil, ↓reduceIte, Bool.false_eq_true, and_true, not_false_eq_true, decide_false, Nat.le_refl, Nat.add_zero, Nat.zero_add, Nat.reduceEqDiff, Nat.reduceAdd, Nat.reduceLT, Nat.reduceLeDiff, Int.reduceLT, roundF_eq, kt_nil, Int.cast_ofNat_Int, data_Cons, data_Maps, ownAt_zero, tailAt_zero, h0, r0, r1, r2, r3, r16, i0, i1, i2, i3, i16, wd, wn, wp, wo]
       | succ z =>
         have h0 : ¬ (((z + 1 : Nat) : Int) < (z + 1 : Nat)) := by omega
         simp -implicitDefEqProofs only [code_ops, code_seq, code_cond, code_exit, ops_cons, ops_nil, aOp, opd, upd_at, kt_cons, stepVal, aBin, aInt, isShift, gcE, gc_mk, gcIds_mk, newIds_nil, newIds_cons, gcMap_at, posOf, ren, renC, renO_box, renO_tail, idsV, idsC, idsO_box, idsO_tail, isData_list_full, isData_list_tail, isData_int, isData_ptr, isDataL_nil, Option.getD_some, List.map_cons, List.map_nil, List.flatMap_cons, List.flatMap_nil, List.length_cons, List.length_nil, List.cons_append, List.nil_append, List.append_nil, List.getElem?_cons_zero, List.getElem?_cons_succ, List.take_succ_cons, List.take_zero, List.not_mem_nil, ↓reduceIte, Bool.false_eq_true, and_true, not_false_eq_true, decide_false, and_self, Nat.le_refl, Nat.add_zero, Nat.zero_add, Nat.reduceEqDiff, Nat.reduceAdd, Nat.reduceLT, Nat.reduceLeDiff, roundF_eq, kt_nil, data_Cons, data_Maps, ownAt_succ, tailAt_succ, h0, r0, r1, r2, r3, r16, i0, i1, i2, i3, i16, wd, wn, wp, wo])
end
end Go.Abs
/-
  Apply on the abstract machine: the outer loops. Conditions: none.
-/
set_option linter.unusedVariables false
set_option linter.unusedSimpArgs false
set_option maxRecDepth 100000
set_option maxHeartbeats 8000000
namespace Go.Abs

def valMap (l : List SigMap) (v : ValSig) : ValSig := ⟨v.name, mapped v.scheme l⟩
def ap2 (l : List SigMap) (P : Heap) (ow : Option (Option Nat)) (ds outs : List DataSig) (k : Nat) : St :=
  ⟨kt [4, 8, 11, 14, 73, 74, 75] [.ptr (some (0, 0)), .ptr (some (2, 0)), .list (l.map encMap) ow, .ptr (some (P.length, 0)), .list (ds.map encData) none, .int .i64 ds.length, .int .i64 k],
   P ++ .box [.list (outs.map encData) (ownAt (P.length + 1) k), .list [] (some none)] :: tailAt 3 k⟩
def ap3 (l : List SigMap) (P T3 : Heap) (ow ow3 : Option (Option Nat)) (dv : List AVal) (vs outs : List ValSig) (k : Nat) : St :=
  ⟨kt [8, 11, 14, 126, 127, 128] [.ptr (some (2, 0)), .list (l.map encMap) ow, .ptr (some (P.length, 0)), .list (vs.map encVal) none, .int .i64 vs.length, .int .i64 k],
   P ++ .box [.list dv ow3, .list (outs.map encVal) (ownAt (P.length + 1 + T3.length) k)] :: (T3 ++ tailAt 7 k)⟩

section
variable {L : Lib} {ca : ByteArray → ByteArray → Bool} (X : Sig L ca)
include X
theorem Sig.ap_l2 (l : List SigMap) (hl : l.length < 2 ^ 30) (hok : ∀ m ∈ l, TyOk m.type) {P : Heap} {ow : Option (Option Nat)} (hP : AP P ow) (ds : List DataSig) (hld : ds.length < 2 ^ 30) (hfd : ∀ d ∈ ds, FitData d) :
    loopF L.pure (call L) (P.length + 1) [4, 8, 11, 14, 73, 74, 75] [4, 8, 11, 14] 0 fn26_l2 (ap2 l P ow ds [] 0) =
    some (.normal, ⟨kt [4, 8, 11, 14] [.ptr (some (0, 0)), .ptr (some (2, 0)), .list (l.map encMap) ow, .ptr (some (P.length, 0))], (ap2 l P ow ds (ds.map (dataMap l)) ds.length).h⟩) := by
  have hp := X.plain.pure
  have hP0 := hP
  obtain ⟨o0, o1, o2, o3, ⟨r0, i0⟩, ⟨r1, i1⟩, ⟨r2, i2⟩, ⟨r3, i3⟩, hP⟩ := hP
  refine loopF_append ds (dataMap l) (ap2 l P ow ds) _ ?_ ?_
  · intro k hi outs hlen
    obtain ⟨g1, g2, g3⟩ := round_facts encData ds hld k hi
    have hm : k + 1 ≤ 1073741824 := by omega
    have hfk := hfd _ (List.getElem_mem hi)
    have hin := X.ap_l1 l hl hok hP0 (own_T (P.length + 1) k 3) (old_box (cs := [.str ds[k].name, .int .i64 ds[k].params, .list (ds[k].cons.map encCon) none]) (by simp only [isDataL, isData, data_Cons, Bool.and_self]))
      (.list (ds.map encData) none) (.str ds[k].name) (.int .i64 ds[k].params) (by rw [isData_list_none, data_Datas]) rfl rfl (outs.map encData) (data_Datas _) ds.length k ds[k].cons hfk.1 hfk.2.2
    have hz := own_cases (P.length + 1 + (tailAt 3 k).length + 2) 2 ds[k].cons.length
    unfold ap1 at hin
    unfold ap2
    cases k with
    | zero =>
      obtain rfl := List.eq_nil_of_length_eq_zero hlen
      have g1 : (0 : Int) < ds.length := by omega
      have g2 : IntKind.i64.wrap 1 = 1 := by decide
      generalize ds[0] = a at *
      unfold fn26_l2 dataMap
      rcases hP with ⟨rfl, rfl⟩ | ⟨rfl, rfl⟩ <;> rcases hz with ⟨z1, z2⟩ | ⟨z1, z2⟩ <;>
        simp only [Int.natCast_zero, List.map_nil, List.length_cons, List.length_nil, List.cons_append, List.nil_append, ownAt_zero, tailAt_zero, Nat.zero_add, Nat.add_zero, Nat.reduceAdd] at hin z1 z2 <;> simp only [z1, z2] at hin <;>
        simp -implicitDefEqProofs only [code_skip, code_ops, code_seq, code_cond, code_block, ops_cons, ops_nil, aOp, opd, upd_at, upd_none, kt_cons, stepVal, stepHeap, aBin, aLen, aInt, aIndexList, isShift, aLoad1, aStore, readAt, aField, fillA, known, leaf, acells_agg, acells_int, acells_str, acells_list, cellsSet, code_loopF, gc_mk, gcIds_mk, newIds_nil, newIds_cons, gcMap_at, posOf, ren, renC, renO_box, renO_tail, idsV, idsC, idsO_box, aAppend, wipe_agg, wipeC_list, wipeC_int, wipeC_str, isData_list_none, isData_list_full, isData_list_tail, isData_int, isData_str, isData_agg, isData_ptr, isDataL_nil, isDataL_cons, Option.map_some, Option.getD_some, List.map_cons, List.map_nil, List.flatMap_cons, List.flatMap_nil, List.length_cons, List.length_nil, List.length_map, List.cons_append, List.nil_append, List.append_nil, List.getElem?_cons_zero, List.getElem?_cons_succ, List.set_cons_zero, List.set_cons_succ, List.take_succ_cons, List.take_zero, List.drop_succ_cons, List.drop_zero, List.take_nil, List.drop_nil, List.all_cons, List.all_nil, List.not_mem_nil, ↓reduceIte, Bool.and_true, Bool.false_eq_true, and_true, not_false_eq_true, decide_true, and_self, Nat.le_refl, Nat.add_zero, Nat.zero_add, Nat.reduceEqDiff, Nat.reduceAdd, Nat.reduceLT, Nat.reduceLeDiff, Int.reduceToNat, Int.reduceLE, List.cons_ne_nil, roundF_eq, maxLen_eq, Int.reduceAdd, kt_nil, Int.cast_ofNat_Int, encData_eq, data_Cons, data_Datas, data_Maps, ownAt_zero, ownAt_succ, tailAt_zero, tailAt_succ, g1, g2, g3, hin, r0, r1, r2, r3, i0, i1, i2, i3, doCall_p L hp, hp]
    | succ k =>
      generalize ds[k + 1] = a at *
      unfold fn26_l2 dataMap
      rcases hP with ⟨rfl, rfl⟩ | ⟨rfl, rfl⟩ <;> rcases hz with ⟨z1, z2⟩ | ⟨z1, z2⟩ <;>
        simp only [Int.natCast_zero, List.map_nil, List.length_cons, List.length_nil, List.cons_append, List.nil_append, ownAt_zero, tailAt_zero, ownAt_succ, tailAt_succ, Nat.zero_add, Nat.add_zero, Nat.reduceAdd] at hin z1 z2 <;> simp only [z1, z2] at hin <;>
        simp -implicitDefEqProofs only [code_skip, code_ops, code_seq, code_cond, code_block, ops_cons, ops_nil, aOp, opd, upd_at, upd_none, kt_cons, stepVal, stepHeap, aBin, aLen, aInt, aIndexList, isShift, aLoad1, aStore, readAt, aField, fillA, known, leaf, acells_agg, acells_int, acells_str, acells_list, cellsSet, code_loopF, gc_mk, gcIds_mk, newIds_nil, newIds_cons, gcMap_at, posOf, ren, renC, renO_box, renO_tail, idsV, idsC, idsO_box, idsO_tail, aAppend, wipe_agg, wipeC_list, wipeC_int, wipeC_str, isData_list_none, isData_list_full, isData_list_tail, isData_int, isData_str, isData_agg, isData_ptr, isDataL_nil, isDataL_cons, isDataL_append, Option.map_some, Option.getD_some, List.map_cons, List.map_nil, List.flatMap_cons, List.flatMap_nil, List.length_cons, List.length_nil, List.length_map, List.cons_append, List.nil_append, List.append_nil, List.getElem?_cons_zero, List.getElem?_cons_succ, List.set_cons_zero, List.set_cons_succ, List.take_succ_cons, List.take_zero, List.drop_succ_cons, List.drop_zero, List.take_nil, List.drop_nil, List.all_cons, List.all_nil, List.not_mem_nil, ↓reduceIte, Bool.and_true, Bool.false_eq_true, and_true, not_false_eq_true, decide_true, and_self, Nat.le_refl, Nat.add_zero, Nat.zero_add, Nat.reduceEqDiff, Nat.reduceAdd, Nat.reduceLT, Nat.reduceLeDiff, Int.toNat_natCast, Int.natCast_nonneg, List.cons_ne_nil, roundF_eq, maxLen_eq, List.map_append, kt_nil, encData_eq, data_Cons, data_Datas, data_Maps, all_Datas, ownAt_succ, tailAt_succ, g1, g2, g3, hm, hlen, hin, r0, r1, r2, r3, i0, i1, i2, i3, doCall_p L hp, hp]
  · have h0 : ¬ ((ds.length : Int) < ds.length) := by omega
    unfold fn26_l2 ap2
    rcases hP with ⟨rfl, rfl⟩ | ⟨rfl, rfl⟩ <;>
      (cases ds.length with
       | zero => simp -implicitDefEqProofs only [code_ops, code_seq, code_cond, code_exit, ops_cons, ops_nil, aOp, opd, upd_at, kt_cons, stepVal, aBin, aInt, isShift, gcE, gc_mk, gcIds_mk, newIds_nil, newIds_cons, gcMap_at, posOf, ren, renC, renO_box, idsV, idsC, idsO_box, isData_list_full, isData_list_tail, isData_ptr, isDataL_nil, List.map_cons, List.map_nil, List.flatMap_cons, List.flatMap_nil, List.length_cons, List.length_nil, List.cons_append, List.nil_append, List.append_nil, List.take_succ_cons, List.take_nil, List.not_mem_nil, ↓reduceIte, Bool.false_eq_true, and_true, not_false_eq_true, decide_false, Nat.le_refl, Nat.zero_add, Nat.reduceEqDiff, Nat.reduceAdd, Nat.reduceLT, Nat.reduceLeDiff, Int.reduceLT, roundF_eq, kt_nil, Int.cast_ofNat_Int, data_Datas, data_Maps, ownAt_zero, tailAt_zero, h0, r0, r1, r2, r3, i0, i1, i2, i3]
       | succ z =>
         have h0 : ¬ (((z + 1 : Nat) : Int) < (z + 1 : Nat)) := by omega
         simp -implicitDefEqProofs only [code_ops, code_seq, code_cond, code_exit, ops_cons, ops_nil, aOp, opd, upd_at, kt_cons, stepVal, aBin, aInt, isShift, gcE, gc_mk, gcIds_mk, newIds_nil, newIds_cons, gcMap_at, posOf, ren, renC, renO_box, renO_tail, idsV, idsC, idsO_box, isData_list_full, isData_list_tail, isData_ptr, isDataL_nil, Option.getD_some, List.map_cons, List.map_nil, List.flatMap_cons, List.flatMap_nil, List.length_cons, List.length_nil, List.cons_append, List.nil_append, List.append_nil, List.getElem?_cons_zero, List.getElem?_cons_succ, List.take_succ_cons, List.take_zero, List.not_mem_nil, ↓reduceIte, Bool.false_eq_true, and_true, not_false_eq_true, decide_false, and_self, Nat.le_refl, Nat.zero_add, Nat.reduceEqDiff, Nat.reduceAdd, Nat.reduceLT, Nat.reduceLeDiff, roundF_eq, kt_nil, data_Datas, data_Maps, ownAt_succ, tailAt_succ, h0, r0, r1, r2, r3, i0, i1, i2, i3])

theorem Sig.ap_l3 (l : List SigMap) (hl : l.length < 2 ^ 30) (hok : ∀ m ∈ l, TyOk m.type) {P T3 : Heap} {ow ow3 : Option (Option Nat)} (hP : AP P ow) (h3 : OwT (P.length + 1) ow3 T3 3) (dv : List AVal) (wd : isDataL dv = true) (vs : List ValSig) (hlv : vs.length < 2 ^ 30) (hfv : ∀ v ∈ vs, FitScheme v.scheme) :
    loopF L.pure (call L) (P.length + 1 + T3.length) [8, 11, 14, 126, 127, 128] [8, 14] 6 fn26_l3 (ap3 l P T3 ow ow3 dv vs [] 0) =
    some (.normal, ⟨kt [8, 14] [.ptr (some (2, 0)), .ptr (some (P.length, 0))], (ap3 l P T3 ow ow3 dv vs (vs.map (valMap l)) vs.length).h⟩) := by
  have hp := X.plain.pure
  obtain ⟨o0, o1, o2, o3, ⟨r0, i0⟩, ⟨r1, i1⟩, ⟨r2, i2⟩, ⟨r3, i3⟩, hP⟩ := hP
  refine loopF_append vs (valMap l) (ap3 l P T3 ow ow3 dv vs) _ ?_ ?_
  · intro k hi outs hlen
    obtain ⟨g1, g2, g3⟩ := round_facts encVal vs hlv k hi
    have hm : k + 1 ≤ 1073741824 := by omega
    have hf := hfv _ (List.getElem_mem hi)
    have ih1 := fun h => mapped_ok X.plain X.f44 X.f15 X.f36 l hl hok vs[k].scheme hf.1 hf.2.1 hf.2.2 h
    unfold ap3
    cases k with
    | zero =>
      obtain rfl := List.eq_nil_of_length_eq_zero hlen
      have g1 : (0 : Int) < vs.length := by omega
      have g2 : IntKind.i64.wrap 1 = 1 := by decide
      generalize vs[0] = a at *
      unfold fn26_l3 valMap
      generalize mapped a.scheme l = ms at *
      rcases hP with ⟨rfl, rfl⟩ | ⟨rfl, rfl⟩ <;> rcases h3 with ⟨rfl, rfl⟩ | ⟨n3, rfl, rfl⟩ <;>
        simp -implicitDefEqProofs only [code_skip, code_ops, code_draw, code_seq, code_cond, code_block, ops_cons, ops_nil, aOp, opd, upd_at, upd_none, kt_cons, stepVal, stepHeap, aBin, aInt, aIndexList, isShift, aWanted, aLoad1, aStore, readAt, aField, fillA, known, leaf, acells_agg, acells_str, acells_list, cellsSet, gc_mk, gcIds_mk, newIds_nil, newIds_cons, gcMap_at, posOf, ren, renC, renO_box, renO_tail, idsV, idsC, idsO_box, idsO_tail, draw_eq, opsH_nil, opsH_cons, isLoud, aAppend, wipe_agg, wipe_list, wipeC_list, wipeC_int, wipeC_str, isData_list_none, isData_list_full, isData_list_tail, isData_int, isData_str, isData_agg, isData_ptr, isDataL_nil, isDataL_cons, Option.map_some, Option.getD_some, List.map_cons, List.map_nil, List.flatMap_cons, List.flatMap_nil, List.length_cons, List.length_nil, List.cons_append, List.nil_append, List.append_nil, List.getElem?_cons_zero, List.getElem?_cons_succ, List.set_cons_zero, List.set_cons_succ, List.take_succ_cons, List.take_zero, List.drop_succ_cons, List.drop_zero, List.take_nil, List.drop_nil, List.all_cons, List.all_nil, List.not_mem_nil, ↓reduceIte, Bool.and_true, Bool.false_eq_true, and_true, not_false_eq_true, decide_true, and_self, Nat.le_refl, Nat.add_zero, Nat.zero_add, Nat.reduceEqDiff, Nat.reduceAdd, Nat.reduceLT, Nat.reduceLeDiff, Int.reduceToNat, Int.reduceLE, List.cons_ne_nil, roundF_eq, maxLen_eq, checksP_nil, drawTo_if, Int.reduceAdd, kt_nil, Int.cast_ofNat_Int, onlyVal, encScheme_eq, encVal_eq, data_Tys, data_Preds, data_Vals, data_Maps, ownAt_zero, ownAt_succ, tailAt_zero, tailAt_succ, g1, g2, g3, ih1, r0, r1, r2, r3, i0, i1, i2, i3, wd, doCall_p L hp, hp]
    | succ k =>
      generalize vs[k + 1] = a at *
      unfold fn26_l3 valMap
      generalize mapped a.scheme l = ms at *
      rcases hP with ⟨rfl, rfl⟩ | ⟨rfl, rfl⟩ <;> rcases h3 with ⟨rfl, rfl⟩ | ⟨n3, rfl, rfl⟩ <;>
        simp -implicitDefEqProofs only [code_skip, code_ops, code_draw, code_seq, code_cond, code_block, ops_cons, ops_nil, aOp, opd, upd_at, upd_none, kt_cons, stepVal, stepHeap, aBin, aInt, aIndexList, isShift, aWanted, aLoad1, aStore, readAt, aField, fillA, known, leaf, acells_agg, acells_str, acells_list, cellsSet, gc_mk, gcIds_mk, newIds_nil, newIds_cons, gcMap_at, posOf, ren, renC, renO_box, renO_tail, idsV, idsC, idsO_box, idsO_tail, draw_eq, opsH_nil, opsH_cons, isLoud, aAppend, wipe_agg, wipe_list, wipeC_list, wipeC_int, wipeC_str, isData_list_none, isData_list_full, isData_list_tail, isData_int, isData_str, isData_agg, isData_ptr, isDataL_nil, isDataL_cons, isDataL_append, Option.map_some, Option.getD_some, List.map_cons, List.map_nil, List.flatMap_cons, List.flatMap_nil, List.length_cons, List.length_nil, List.length_map, List.cons_append, List.nil_append, List.append_nil, List.getElem?_cons_zero, List.getElem?_cons_succ, List.set_cons_zero, List.set_cons_succ, List.take_succ_cons, List.take_zero, List.drop_succ_cons, List.drop_zero, List.take_nil, List.drop_nil, List.all_cons, List.all_nil, List.not_mem_nil, ↓reduceIte, Bool.and_true, Bool.false_eq_true, and_true, not_false_eq_true, decide_true, and_self, Nat.le_refl, Nat.add_zero, Nat.zero_add, Nat.reduceEqDiff, Nat.reduceAdd, Nat.reduceLT, Nat.reduceLeDiff, Int.toNat_natCast, Int.natCast_nonneg, List.cons_ne_nil, roundF_eq, maxLen_eq, checksP_nil, drawTo_if, List.map_append, kt_nil, onlyVal, encScheme_eq, encVal_eq, data_Tys, data_Preds, data_Vals, data_Maps, all_Vals, ownAt_succ, tailAt_succ, g1, g2, g3, hm, hlen, ih1, r0, r1, r2, r3, i0, i1, i2, i3, wd, doCall_p L hp, hp]
  · have h0 : ¬ ((vs.length : Int) < vs.length) := by omega
    unfold fn26_l3 ap3
    rcases hP with ⟨rfl, rfl⟩ | ⟨rfl, rfl⟩ <;> rcases h3 with ⟨rfl, rfl⟩ | ⟨n3, rfl, rfl⟩ <;>
      (cases vs.length with
       | zero => simp -implicitDefEqProofs only [code_ops, code_seq, code_cond, code_exit, ops_cons, ops_nil, aOp, opd, upd_at, kt_cons, stepVal, aBin, aInt, isShift, gcE, gc_mk, gcIds_mk, newIds_nil, newIds_cons, gcMap_at, posOf, ren, renC, renO_box, renO_tail, idsV, idsC, idsO_box, idsO_tail, isData_list_full, isData_list_tail, isData_ptr, List.map_cons, List.map_nil, List.flatMap_cons, List.flatMap_nil, List.length_cons, List.length_nil, List.cons_append, List.nil_append, List.append_nil, List.take_succ_cons, List.take_nil, List.not_mem_nil, ↓reduceIte, Bool.false_eq_true, and_true, not_false_eq_true, decide_false, Nat.le_refl, Nat.add_zero, Nat.zero_add, Nat.reduceEqDiff, Nat.reduceAdd, Nat.reduceLT, Nat.reduceLeDiff, Int.reduceLT, roundF_eq, kt_nil, Int.cast_ofNat_Int, data_Vals, ownAt_zero, tailAt_zero, h0, r0, r1, r2, r3, i0, i1, i2, i3, wd]
       | succ z =>
         have h0 : ¬ (((z + 1 : Nat) : Int) < (z + 1 : Nat)) := by omega
         simp -implicitDefEqProofs only [code_ops, code_seq, code_cond, code_exit, ops_cons, ops_nil, aOp, opd, upd_at, kt_cons, stepVal, aBin, aInt, isShift, gcE, gc_mk, gcIds_mk, newIds_nil, newIds_cons, gcMap_at, posOf, ren, renC, renO_box, renO_tail, idsV, idsC, idsO_box, idsO_tail, isData_list_full, isData_list_tail, isData_ptr, Option.getD_some, List.map_cons, List.map_nil, List.flatMap_cons, List.flatMap_nil, List.length_cons, List.length_nil, List.cons_append, List.nil_append, List.append_nil, List.getElem?_cons_zero, List.getElem?_cons_succ, List.take_succ_cons, List.take_zero, List.not_mem_nil, ↓reduceIte, Bool.false_eq_true, and_true, not_false_eq_true, decide_false, and_self, Nat.le_refl, Nat.add_zero, Nat.zero_add, Nat.reduceEqDiff, Nat.reduceAdd, Nat.reduceLT, Nat.reduceLeDiff, roundF_eq, kt_nil, data_Vals, ownAt_succ, tailAt_succ, h0, r0, r1, r2, r3, i0, i1, i2, i3, wd])
end
end Go.Abs
