/-
  CheckFunctor on the abstract machine. Conditions: none.
-/
import Derived.Test.YtlielgleabghlaaDoorLawC

set_option linter.unusedVariables false
set_option linter.unusedSimpArgs false
set_option maxRecDepth 100000
set_option maxHeartbeats 4000000
namespace Go.Abs

def fCells (f : SigFunctor) : List AVal := [.str f.name, .list (f.needs.datas.map encData) none, .list (f.needs.vals.map encVal) none, .list (f.yields.datas.map encData) none, .list (f.yields.vals.map encVal) none, .bool f.fresh]
def checkFun (ca : ByteArray → ByteArray → Bool) (f : SigFunctor) : Int :=
  if cutB ca f.name = true then 3 else if check ca f.needs ≠ 0 then check ca f.needs else if check ca f.yields ≠ 0 then check ca f.yields
  else if (f.yields.datas.any fun d => (find f.needs.datas d.name).2) = true then 7 else kindsError f.needs.datas f.yields
def C28 (f : SigFunctor) (i : Nat) : St := ⟨kt [1, 26, 27, 28] [.ptr (some (0, 0)), .list (f.yields.datas.map encData) none, .int .i64 f.yields.datas.length, .int .i64 i],
  [.box [.str f.name, .list (f.needs.datas.map encData) none, .list (f.needs.vals.map encVal) none, .list (f.yields.datas.map encData) none, .list (f.yields.vals.map encVal) none, .bool f.fresh]]⟩

section
variable {L : Lib} {ca : ByteArray → ByteArray → Bool} (X : Sig L ca)
include X
theorem Sig.fun_l0 (f : SigFunctor) (hn : f.needs.datas.length < 2 ^ 30) (hy : f.yields.datas.length < 2 ^ 30) :
    loopF L.pure (call L) 1 [1, 26, 27, 28] [1, 2] 0 fn28_l0 (C28 f 0) = some (if (f.yields.datas.any fun d => (find f.needs.datas d.name).2) = true then (.ret, ⟨kt [1, 2] [.ptr (some (0, 0)), .int .i64 7], (C28 f 0).h⟩) else (.normal, ⟨kt [1, 2] [.ptr (some (0, 0)), .junk], (C28 f 0).h⟩)) := by
  have hp := X.plain.pure
  have hfind := find_ok X.plain X.prims X.f68 X.f67 X.f49 f.needs.datas hn
  refine loopF_any f.yields.datas (fun d => (find f.needs.datas d.name).2) (C28 f) ⟨kt [1, 2] [.ptr (some (0, 0)), .junk], _⟩ ⟨kt [1, 2] [.ptr (some (0, 0)), .int .i64 7], _⟩ ?_ ?_ ?_
  · intro i hi hq
    obtain ⟨h1, h2, h3⟩ := round_facts encData f.yields.datas hy i hi
    have h5 := hfind f.yields.datas[i].name
    rw [hq] at h5
    generalize f.yields.datas[i] = d at *
    unfold fn28_l0 C28
    simp -implicitDefEqProofs only [code_skip, code_ops, code_seq, code_cond, code_block, ops_cons, ops_nil, aOp, opd, upd_at, upd_none, kt_cons, stepVal, stepHeap, aBin, aInt, aIndexList, isShift, aLoad1, aStore, readAt, aField, leaf, acells_agg, cellsSet, gc_mk, gcIds_mk, newIds_nil, newIds_cons, gcMap_at, posOf, ren, renC, renO_box, idsV, idsC, idsO_box, wipe_list, wipe_str, isData_list_none, isData_bool, isData_int, isData_str, isData_ptr, isDataL_nil, isDataL_cons, Option.map_some, List.map_cons, List.map_nil, List.flatMap_cons, List.flatMap_nil, List.length_cons, List.length_nil, List.cons_append, List.nil_append, List.append_nil, List.getElem?_cons_zero, List.getElem?_cons_succ, List.set_cons_zero, List.set_cons_succ, List.take_succ_cons, List.take_zero, List.drop_succ_cons, List.drop_zero, List.take_nil, List.drop_nil, List.all_cons, List.all_nil, List.not_mem_nil, ↓reduceIte, Bool.and_true, Bool.false_eq_true, and_true, not_false_eq_true, decide_true, and_self, Nat.le_refl, Nat.add_zero, Nat.zero_add, Nat.reduceEqDiff, Nat.reduceAdd, Nat.reduceLT, Nat.reduceLeDiff, Int.toNat_natCast, Int.natCast_nonneg, roundF_eq, kt_nil, onlyVal, encData_eq, data_Datas, data_Vals, h1, h2, h3, h5, doCall_p L hp, hp]
  · intro i hi hq
    obtain ⟨h1, h2, h3⟩ := round_facts encData f.yields.datas hy i hi
    have h5 := hfind f.yields.datas[i].name
    rw [hq] at h5
    generalize f.yields.datas[i] = d at *
    unfold fn28_l0 C28
    simp -implicitDefEqProofs only [code_skip, code_ops, code_seq, code_cond, code_block, code_ret, ops_cons, ops_nil, aOp, opd, upd_at, upd_none, kt_cons, stepVal, stepHeap, aBin, aInt, aIndexList, isShift, aLoad1, aStore, readAt, aField, leaf, acells_agg, cellsSet, gcE, gc_mk, gcIds_mk, newIds_nil, newIds_cons, gcMap_at, posOf, ren, renC, renO_box, idsV, idsC, idsO_box, wipe_list, wipe_str, isData_list_none, isData_bool, isData_int, isData_str, isData_ptr, isDataL_nil, isDataL_cons, Option.map_some, List.map_cons, List.map_nil, List.flatMap_cons, List.flatMap_nil, List.length_cons, List.length_nil, List.cons_append, List.nil_append, List.append_nil, List.getElem?_cons_zero, List.getElem?_cons_succ, List.set_cons_zero, List.set_cons_succ, List.take_succ_cons, List.take_zero, List.drop_succ_cons, List.drop_zero, List.take_nil, List.drop_nil, List.all_cons, List.all_nil, List.not_mem_nil, ↓reduceIte, Bool.and_true, Bool.false_eq_true, and_true, not_false_eq_true, decide_true, and_self, Nat.le_refl, Nat.add_zero, Nat.zero_add, Nat.reduceEqDiff, Nat.reduceAdd, Nat.reduceLT, Nat.reduceLeDiff, Int.toNat_natCast, Int.natCast_nonneg, roundF_eq, kt_nil, onlyVal, encData_eq, data_Datas, data_Vals, h1, h2, h3, h5, doCall_p L hp, hp]
  · have h0 : ¬ ((f.yields.datas.length : Int) < f.yields.datas.length) := by omega
    unfold fn28_l0 C28
    simp -implicitDefEqProofs only [code_ops, code_seq, code_cond, code_exit, ops_cons, ops_nil, aOp, opd, upd_at, kt_cons, stepVal, aBin, aInt, isShift, gcE, gc_mk, gcIds_mk, newIds_nil, newIds_cons, gcMap_at, posOf, ren, renC, renO_box, idsV, idsC, idsO_box, isData_list_none, isData_bool, isData_str, isData_ptr, isData_junk, List.map_cons, List.map_nil, List.flatMap_cons, List.flatMap_nil, List.length_cons, List.length_nil, List.append_nil, List.take_succ_cons, List.take_nil, List.not_mem_nil, ↓reduceIte, Bool.false_eq_true, and_true, not_false_eq_true, decide_false, Nat.le_refl, Nat.zero_add, Nat.reduceEqDiff, Nat.reduceLT, Nat.reduceLeDiff, roundF_eq, kt_nil, data_Datas, data_Vals, h0]

theorem Sig.checkFun_ok (f : SigFunctor) (hn : FitSpec f.needs) (hy : FitSpec f.yields) (h : Heap) : pcall L 28 [.agg (fCells f)] h = some (.val (.int .i64 (checkFun ca f)), h) := by
  have hp := X.plain.pure
  have h1 := X.cut f.name
  have h2 := X.check hn
  have h3 := X.check hy
  have h4 := X.fun_l0 f hn.datas hy.datas
  have h5 := X.kinds f.needs.datas hn.datas hy
  unfold C28 at h4
  simp only [Int.natCast_zero] at h4
  unfold fCells checkFun
  refine pcall_fn X.plain X.f28 rfl ?_ h
  unfold fn28
  cases e1 : cutB ca f.name
  · by_cases e2 : Abs.check ca f.needs = 0
    · by_cases e3 : Abs.check ca f.yields = 0
      · cases e4 : f.yields.datas.any (fun d => (find f.needs.datas d.name).2) <;> simp only [e4] at h4 <;>
          simp -implicitDefEqProofs only [code_skip, code_ops, code_seq, code_cond, code_ret, ops_cons, ops_nil, aOp, opd, upd_at, initTm_at, kt_cons, stepVal, aBin, aLen, aInt, isShift, aLoad1, readAt, aField, acells_agg, endFn, aResults, aResult, tupled, code_loopF, gc_mk, gcIds_mk, newIds_nil, newIds_cons, gcMap_at, posOf, ren, renC, renO_box, idsV, idsC, idsO_box, wipe_agg, wipe_list, wipe_str, wipeR_int, wipeC_list, isData_list_none, isData_bool, isData_int, isData_str, isData_agg, isData_ptr, isDataL_nil, isDataL_cons, beq_self_eq_true, Option.map_some, Option.getD_some, List.map_cons, List.map_nil, List.flatMap_cons, List.flatMap_nil, List.length_cons, List.length_nil, List.length_map, List.nil_append, List.append_nil, List.getElem?_cons_zero, List.getElem?_cons_succ, List.take_succ_cons, List.take_zero, List.drop_succ_cons, List.drop_zero, List.take_nil, List.not_mem_nil, ↓reduceIte, Bool.and_true, Bool.not_true, Bool.false_eq_true, and_true, not_true_eq_false, not_false_eq_true, and_self, Nat.le_refl, Nat.add_zero, Nat.zero_add, Nat.reduceEqDiff, Nat.reduceAdd, Nat.reduceLT, Nat.reduceLeDiff, ne_eq, onlyVal, data_Datas, data_Vals, outOf_val, h1, h2, h3, h4, h5, e1, e2, e3, e4, doCall_p L hp, hp, ne_eq, not_true_eq_false, bne]
      · have e3' : (Abs.check ca f.yields == 0) = false := by simpa using e3
        simp -implicitDefEqProofs only [code_skip, code_ops, code_seq, code_cond, code_ret, ops_cons, ops_nil, aOp, opd, upd_at, initTm_at, stepVal, aBin, aInt, isShift, aLoad1, readAt, aField, acells_agg, endFn, aResults, aResult, tupled, wipe_agg, wipe_str, wipeR_int, wipeC_list, isData_list_none, isData_str, isData_agg, isDataL_nil, isDataL_cons, beq_self_eq_true, Option.map_some, Option.getD_some, List.map_cons, List.map_nil, List.length_cons, List.length_nil, List.nil_append, List.getElem?_cons_zero, List.take_succ_cons, List.take_zero, List.drop_succ_cons, List.drop_zero, ↓reduceIte, Bool.and_true, Bool.not_true, Bool.not_false, Bool.false_eq_true, not_true_eq_false, not_false_eq_true, and_self, Nat.add_zero, Nat.zero_add, Nat.reduceEqDiff, Nat.reduceAdd, Nat.reduceLeDiff, ne_eq, onlyVal, data_Datas, data_Vals, outOf_val, h1, h2, h3, e1, e2, e3, e3', doCall_p L hp, hp, ne_eq, not_true_eq_false, not_false_eq_true, bne]
    · have e2' : (Abs.check ca f.needs == 0) = false := by simpa using e2
      simp -implicitDefEqProofs only [code_skip, code_ops, code_seq, code_cond, code_ret, ops_cons, ops_nil, aOp, opd, upd_at, initTm_at, stepVal, aBin, aInt, isShift, aLoad1, readAt, aField, acells_agg, endFn, aResults, aResult, tupled, wipe_agg, wipe_str, wipeR_int, wipeC_list, isData_list_none, isData_str, isData_agg, isDataL_nil, isDataL_cons, Option.map_some, Option.getD_some, List.map_cons, List.map_nil, List.length_cons, List.length_nil, List.nil_append, List.getElem?_cons_zero, List.take_succ_cons, List.take_zero, List.drop_succ_cons, List.drop_zero, ↓reduceIte, Bool.and_true, Bool.not_false, Bool.false_eq_true, not_false_eq_true, and_self, Nat.add_zero, Nat.zero_add, Nat.reduceEqDiff, Nat.reduceAdd, Nat.reduceLeDiff, ne_eq, onlyVal, data_Datas, data_Vals, outOf_val, h1, h2, e1, e2, e2', doCall_p L hp, hp, ne_eq, not_false_eq_true, bne]
  · simp -implicitDefEqProofs only [code_ops, code_seq, code_cond, code_ret, ops_cons, ops_nil, aOp, opd, upd_at, initTm_at, stepVal, aLoad1, aField, acells_agg, endFn, aResults, aResult, tupled, wipe_str, wipeR_int, isData_str, isDataL_nil, isDataL_cons, Option.getD_some, List.map_cons, List.map_nil, List.length_nil, List.nil_append, List.getElem?_cons_zero, ↓reduceIte, Bool.and_true, and_self, Nat.add_zero, Nat.reduceEqDiff, onlyVal, outOf_val, h1, e1, doCall_p L hp, hp]
end
end Go.Abs
