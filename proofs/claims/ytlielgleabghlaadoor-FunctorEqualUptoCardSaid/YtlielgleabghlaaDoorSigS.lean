/-
  What Check answers. Conditions: none.
-/
import Derived.Test.YtlielgleabghlaaDoorSigR

set_option linter.unusedVariables false
set_option linter.unusedSimpArgs false
set_option maxRecDepth 100000
set_option maxHeartbeats 4000000
namespace Go.Abs

theorem check_l1 {L : Lib} {ca : ByteArray → ByteArray → Bool} (hL : Plain L) (hcut : ∀ (n : ByteArray) (h : Heap), pcall L 29 [.str n] h = some (.val (.bool (cutB ca n)), h))
    (hse : ∀ s : Scheme, s.preds.length < 2 ^ 30 → ∀ h : Heap, pcall L 38 [.agg [.int .i64 s.vars, .list (s.preds.map encPred) none, .int .i64 s.type.kind, .str s.type.name, .int .i64 s.type.var, .list (s.type.args.map encTy) none]] h = some (.val (.int .i64 (schemeError ca s)), h))
    (s : SigSpec) (hl : s.vals.length < 2 ^ 30) (hc : ∀ v ∈ s.vals, v.scheme.preds.length < 2 ^ 30) :
    loopF L.pure (call L) 1 [1, 48, 49, 50] [1, 2] 2 fn12_l1 ⟨kt [1, 48, 49, 50] [.ptr (some (0, 0)), .list (s.vals.map encVal) none, .int .i64 s.vals.length, .int .i64 ((0 : Nat) : Int)], [.box [.list (s.datas.map encData) none, .list (s.vals.map encVal) none]]⟩ =
    some (if firstErr ((List.range s.vals.length).map (valAt ca s.vals)) = 0 then (.normal, ⟨kt [1, 2] [.ptr (some (0, 0)), .junk], [.box [.list (s.datas.map encData) none, .list (s.vals.map encVal) none]]⟩)
      else (.ret, ⟨kt [1, 2] [.ptr (some (0, 0)), .int .i64 (firstErr ((List.range s.vals.length).map (valAt ca s.vals)))], [.box [.list (s.datas.map encData) none, .list (s.vals.map encVal) none]]⟩)) := by
  have hp := hL.pure
  refine loopF_err (List.range s.vals.length) (valAt ca s.vals) (fun i => ⟨kt [1, 48, 49, 50] [.ptr (some (0, 0)), .list (s.vals.map encVal) none, .int .i64 s.vals.length, .int .i64 i], [.box [.list (s.datas.map encData) none, .list (s.vals.map encVal) none]]⟩)
    ⟨kt [1, 2] [.ptr (some (0, 0)), .junk], _⟩ (fun e => ⟨kt [1, 2] [.ptr (some (0, 0)), .int .i64 e], _⟩) ?_ ?_ ?_
  · intro i hi he
    rw [List.length_range] at hi
    rw [List.getElem_range] at he
    obtain ⟨h1, h2, h3⟩ := round_facts encVal s.vals hl i hi
    have ih1 := hse s.vals[i].scheme (hc _ (List.getElem_mem hi))
    simp only [valAt, List.getElem?_eq_getElem hi] at he
    cases hq0 : cutB ca s.vals[i].name
    · by_cases hz : schemeError ca s.vals[i].scheme = 0
      · cases i with
        | zero =>
          have h1 : (0 : Int) < s.vals.length := by omega
          have h2 : IntKind.i64.wrap 1 = 1 := by decide
          generalize s.vals[0] = a at *
          unfold fn12_l1
          simp -implicitDefEqProofs only [code_skip, code_ops, code_draw, code_seq, code_cond, code_block, ops_cons, ops_nil, aOp, opd, upd_at, upd_none, kt_cons, stepVal, stepHeap, aBin, aInt, aIndexList, isShift, aWanted, aLoad1, aStore, readAt, aField, leaf, acells_agg, cellsSet, gc_mk, gcIds_mk, newIds_nil, newIds_cons, gcMap_at, posOf, ren, renC, renO_box, idsV, idsC, idsO_box, draw_eq, opsH_nil, opsH_cons, isLoud, wipe_agg, wipe_str, wipeC_list, wipeC_int, wipeC_str, isData_list_none, isData_int, isData_str, isData_agg, isData_ptr, isDataL_nil, isDataL_cons, beqFT, beq_self_eq_true, Option.map_some, List.map_cons, List.map_nil, List.flatMap_cons, List.flatMap_nil, List.length_cons, List.length_nil, List.cons_append, List.nil_append, List.append_nil, List.getElem?_cons_zero, List.getElem?_cons_succ, List.set_cons_zero, List.set_cons_succ, List.take_succ_cons, List.take_zero, List.drop_succ_cons, List.drop_zero, List.take_nil, List.drop_nil, List.all_cons, List.all_nil, List.not_mem_nil, ↓reduceIte, Bool.and_true, Bool.not_true, Bool.false_eq_true, and_true, not_false_eq_true, decide_true, decide_false, and_self, Nat.le_refl, Nat.add_zero, Nat.zero_add, Nat.reduceEqDiff, Nat.reduceAdd, Nat.reduceLT, Nat.reduceLeDiff, Int.reduceToNat, Int.reduceLE, Int.reduceLT, roundF_eq, checksP_nil, drawTo_if, Int.reduceAdd, kt_nil, Int.cast_ofNat_Int, gt_iff_lt, onlyVal, encVal_eq, data_Tys, data_Datas, data_Preds, data_Vals, h1, h2, h3, hcut, hq0, ih1, hz, doCall_p L hp, hp, bne]
        | succ j =>
          have hj : j < s.vals.length := by omega
          have h4 : IntKind.i64.wrap (((j + 1 : Nat) : Int) - 1) = (j : Int) := by rw [wrap64 (by omega) (by omega)]; omega
          have h5 : (s.vals.map encVal)[j]? = some (encVal s.vals[j]) := by simp [hj]
          have h6 : (((j + 1 : Nat) : Int) > 0) := by omega
          simp only [List.getElem?_eq_getElem hj, hq0, hz, ne_eq, not_true_eq_false, if_false, Bool.false_eq_true] at he
          have h7 : geB s.vals[j].name s.vals[j + 1].name = false := by
            cases hq : geB s.vals[j].name s.vals[j + 1].name with
            | false => rfl
            | true => simp [hq] at he
          unfold geB at h7
          generalize s.vals[j + 1] = a at *
          generalize s.vals[j] = b at *
          unfold fn12_l1
          simp -implicitDefEqProofs only [code_skip, code_ops, code_draw, code_seq, code_cond, code_block, ops_cons, ops_nil, aOp, opd, upd_at, upd_none, kt_cons, stepVal, stepHeap, aBin, aStr, aInt, aIndexList, isShift, aWanted, aLoad1, aStore, readAt, aField, leaf, acells_agg, cellsSet, gc_mk, gcIds_mk, newIds_nil, newIds_cons, gcMap_at, posOf, ren, renC, renO_box, idsV, idsC, idsO_box, draw_eq, opsH_nil, opsH_cons, isLoud, wipe_agg, wipe_str, wipeC_list, wipeC_int, wipeC_str, isData_list_none, isData_int, isData_str, isData_agg, isData_ptr, isDataL_nil, isDataL_cons, beq_self_eq_true, Option.map_some, List.map_cons, List.map_nil, List.flatMap_cons, List.flatMap_nil, List.length_cons, List.length_nil, List.cons_append, List.nil_append, List.append_nil, List.getElem?_cons_zero, List.getElem?_cons_succ, List.set_cons_zero, List.set_cons_succ, List.take_succ_cons, List.take_zero, List.drop_succ_cons, List.drop_zero, List.take_nil, List.drop_nil, List.all_cons, List.all_nil, List.not_mem_nil, ↓reduceIte, Bool.and_true, Bool.not_true, Bool.false_eq_true, and_true, not_false_eq_true, decide_true, and_self, Nat.le_refl, Nat.add_zero, Nat.zero_add, Nat.reduceEqDiff, Nat.reduceAdd, Nat.reduceLT, Nat.reduceLeDiff, Int.toNat_natCast, Int.natCast_nonneg, roundF_eq, checksP_nil, drawTo_if, kt_nil, gt_iff_lt, onlyVal, encVal_eq, data_Tys, data_Datas, data_Preds, data_Vals, h1, h2, h3, h4, h5, h6, h7, hcut, hq0, ih1, hz, doCall_p L hp, hp, bne]
      · simp [hq0, hz] at he
    · simp [hq0] at he
  · intro i hi he
    rw [List.length_range] at hi
    rw [List.getElem_range] at he ⊢
    obtain ⟨h1, h2, h3⟩ := round_facts encVal s.vals hl i hi
    have ih1 := hse s.vals[i].scheme (hc _ (List.getElem_mem hi))
    simp only [valAt, List.getElem?_eq_getElem hi] at he ⊢
    cases hq0 : cutB ca s.vals[i].name
    · by_cases hz : schemeError ca s.vals[i].scheme = 0
      · cases i with
        | zero => simp [hq0, hz] at he
        | succ j =>
          have hj : j < s.vals.length := by omega
          have h4 : IntKind.i64.wrap (((j + 1 : Nat) : Int) - 1) = (j : Int) := by rw [wrap64 (by omega) (by omega)]; omega
          have h5 : (s.vals.map encVal)[j]? = some (encVal s.vals[j]) := by simp [hj]
          have h6 : (((j + 1 : Nat) : Int) > 0) := by omega
          simp only [List.getElem?_eq_getElem hj, hq0, hz, ne_eq, not_true_eq_false, if_false, Bool.false_eq_true] at he ⊢
          have h7 : geB s.vals[j].name s.vals[j + 1].name = true := by
            cases hq : geB s.vals[j].name s.vals[j + 1].name with
            | true => rfl
            | false => simp [hq] at he
          have h7' := h7
          unfold geB at h7
          generalize s.vals[j + 1] = a at *
          generalize s.vals[j] = b at *
          unfold fn12_l1
          simp -implicitDefEqProofs only [code_skip, code_ops, code_draw, code_seq, code_cond, code_block, code_ret, ops_cons, ops_nil, aOp, opd, upd_at, upd_none, kt_cons, stepVal, stepHeap, aBin, aStr, aInt, aIndexList, isShift, aWanted, aLoad1, aStore, readAt, aField, leaf, acells_agg, cellsSet, gcE, gc_mk, gcIds_mk, newIds_nil, newIds_cons, gcMap_at, posOf, ren, renC, renO_box, idsV, idsC, idsO_box, draw_eq, opsH_nil, opsH_cons, isLoud, wipe_agg, wipe_str, wipeC_list, wipeC_int, wipeC_str, isData_list_none, isData_int, isData_str, isData_agg, isData_ptr, isDataL_nil, isDataL_cons, beq_self_eq_true, Option.map_some, List.map_cons, List.map_nil, List.flatMap_cons, List.flatMap_nil, List.length_cons, List.length_nil, List.cons_append, List.nil_append, List.append_nil, List.getElem?_cons_zero, List.getElem?_cons_succ, List.set_cons_zero, List.set_cons_succ, List.take_succ_cons, List.take_zero, List.drop_succ_cons, List.drop_zero, List.take_nil, List.drop_nil, List.all_cons, List.all_nil, List.not_mem_nil, ↓reduceIte, Bool.and_true, Bool.not_true, Bool.false_eq_true, and_true, not_false_eq_true, decide_true, and_self, Nat.le_refl, Nat.add_zero, Nat.zero_add, Nat.reduceEqDiff, Nat.reduceAdd, Nat.reduceLT, Nat.reduceLeDiff, Int.toNat_natCast, Int.natCast_nonneg, roundF_eq, checksP_nil, drawTo_if, kt_nil, gt_iff_lt, onlyVal, encVal_eq, data_Tys, data_Datas, data_Preds, data_Vals, h1, h2, h3, h4, h5, h6, h7, h7', hcut, hq0, ih1, hz, doCall_p L hp, hp, bne]
      · have hz' : (schemeError ca s.vals[i].scheme == 0) = false := by simpa using hz
        generalize s.vals[i] = a at *
        unfold fn12_l1
        simp -implicitDefEqProofs only [code_skip, code_ops, code_seq, code_cond, code_block, code_ret, ops_cons, ops_nil, aOp, opd, upd_at, upd_none, kt_cons, stepVal, stepHeap, aBin, aInt, aIndexList, isShift, aLoad1, aStore, readAt, aField, leaf, acells_agg, cellsSet, gcE, gc_mk, gcIds_mk, newIds_nil, newIds_cons, gcMap_at, posOf, ren, renC, renO_box, idsV, idsC, idsO_box, wipe_agg, wipe_str, wipeC_list, wipeC_int, wipeC_str, isData_list_none, isData_int, isData_str, isData_agg, isData_ptr, isDataL_nil, isDataL_cons, Option.map_some, List.map_cons, List.map_nil, List.flatMap_cons, List.flatMap_nil, List.length_cons, List.length_nil, List.cons_append, List.nil_append, List.append_nil, List.getElem?_cons_zero, List.getElem?_cons_succ, List.set_cons_zero, List.set_cons_succ, List.take_succ_cons, List.take_zero, List.drop_succ_cons, List.drop_zero, List.take_nil, List.drop_nil, List.all_cons, List.all_nil, List.not_mem_nil, ↓reduceIte, Bool.and_true, Bool.not_false, Bool.false_eq_true, and_true, not_false_eq_true, decide_true, and_self, Nat.le_refl, Nat.add_zero, Nat.zero_add, Nat.reduceEqDiff, Nat.reduceAdd, Nat.reduceLT, Nat.reduceLeDiff, Int.toNat_natCast, Int.natCast_nonneg, ne_eq, roundF_eq, kt_nil, onlyVal, encVal_eq, data_Tys, data_Datas, data_Preds, data_Vals, h1, h2, h3, hcut, hq0, ih1, hz, hz', doCall_p L hp, hp, bne, ne_eq, not_false_eq_true]
    · generalize s.vals[i] = a at *
      unfold fn12_l1
      simp -implicitDefEqProofs only [code_skip, code_ops, code_seq, code_cond, code_block, code_ret, ops_cons, ops_nil, aOp, opd, upd_at, upd_none, kt_cons, stepVal, stepHeap, aBin, aInt, aIndexList, isShift, aLoad1, aStore, readAt, aField, leaf, acells_agg, cellsSet, gcE, gc_mk, gcIds_mk, newIds_nil, newIds_cons, gcMap_at, posOf, ren, renC, renO_box, idsV, idsC, idsO_box, wipe_str, isData_list_none, isData_int, isData_str, isData_ptr, isDataL_nil, isDataL_cons, Option.map_some, List.map_cons, List.map_nil, List.flatMap_cons, List.flatMap_nil, List.length_cons, List.length_nil, List.cons_append, List.nil_append, List.append_nil, List.getElem?_cons_zero, List.getElem?_cons_succ, List.set_cons_zero, List.set_cons_succ, List.take_succ_cons, List.take_zero, List.drop_succ_cons, List.drop_zero, List.take_nil, List.drop_nil, List.all_cons, List.all_nil, List.not_mem_nil, ↓reduceIte, Bool.and_true, Bool.false_eq_true, and_true, not_false_eq_true, decide_true, and_self, Nat.le_refl, Nat.add_zero, Nat.zero_add, Nat.reduceEqDiff, Nat.reduceAdd, Nat.reduceLT, Nat.reduceLeDiff, Int.toNat_natCast, Int.natCast_nonneg, roundF_eq, kt_nil, onlyVal, encVal_eq, data_Datas, data_Vals, h1, h2, h3, hcut, hq0, doCall_p L hp, hp, bne]
  · rw [List.length_range]
    have h0 : ¬ ((s.vals.length : Int) < s.vals.length) := by omega
    unfold fn12_l1
    simp -implicitDefEqProofs only [code_ops, code_seq, code_cond, code_exit, ops_cons, ops_nil, aOp, opd, upd_at, kt_cons, stepVal, aBin, aInt, isShift, gcE, gc_mk, gcIds_mk, newIds_nil, newIds_cons, gcMap_at, posOf, ren, renC, renO_box, idsV, idsC, idsO_box, isData_list_none, isData_ptr, isData_junk, List.map_cons, List.map_nil, List.flatMap_cons, List.flatMap_nil, List.length_cons, List.length_nil, List.append_nil, List.take_succ_cons, List.take_nil, List.not_mem_nil, ↓reduceIte, Bool.false_eq_true, and_true, not_false_eq_true, decide_false, Nat.le_refl, Nat.zero_add, Nat.reduceEqDiff, Nat.reduceLT, Nat.reduceLeDiff, roundF_eq, kt_nil, data_Datas, data_Vals, h0]

theorem check_ok' {L : Lib} {ca : ByteArray → ByteArray → Bool} (hL : Plain L) (hde : ∀ d : DataSig, d.cons.length < 2 ^ 30 → ∀ h : Heap, pcall L 37 [.agg [.str d.name, .int .i64 d.params, .list (d.cons.map encCon) none]] h = some (.val (.int .i64 (dataError ca d)), h))
    (hcut : ∀ (n : ByteArray) (h : Heap), pcall L 29 [.str n] h = some (.val (.bool (cutB ca n)), h))
    (hse : ∀ s : Scheme, s.preds.length < 2 ^ 30 → ∀ h : Heap, pcall L 38 [.agg [.int .i64 s.vars, .list (s.preds.map encPred) none, .int .i64 s.type.kind, .str s.type.name, .int .i64 s.type.var, .list (s.type.args.map encTy) none]] h = some (.val (.int .i64 (schemeError ca s)), h))
    (hf : L.fns 12 = some fn12) (s : SigSpec) (hd : s.datas.length < 2 ^ 30) (hdc : ∀ d ∈ s.datas, d.cons.length < 2 ^ 30) (hv : s.vals.length < 2 ^ 30) (hvp : ∀ v ∈ s.vals, v.scheme.preds.length < 2 ^ 30)
    (hki : ∀ h : Heap, pcall L 39 [.list (s.datas.map encData) none, .agg [.list (s.datas.map encData) none, .list (s.vals.map encVal) none]] h = some (.val (.int .i64 (kindsError s.datas s)), h)) (h : Heap) :
    pcall L 12 [.agg [.list (s.datas.map encData) none, .list (s.vals.map encVal) none]] h = some (.val (.int .i64 (check ca s)), h) := by
  have hp := hL.pure
  have hl0 := check_l0 hL hde s hd hdc
  have hl1 := check_l1 hL hcut hse s hv hvp
  simp only [Int.natCast_zero] at hl0 hl1
  refine pcall_fn hL hf rfl ?_ h
  unfold fn12 check
  by_cases h1 : (s.datas.length : Int) > 40
  · simp -implicitDefEqProofs only [code_ops, code_seq, code_cond, code_ret, ops_cons, ops_cons_g, ops_nil, aOp, opd, upd_at, initTm_at, stepVal, aBin, aLen, aInt, isShift, aWanted, aLoad1, aField, acells_agg, endFn, aResults, aResult, tupled, wipeR_int, beqTF, Option.getD_some, List.length_nil, List.length_map, List.nil_append, List.getElem?_cons_zero, ↓reduceIte, Bool.false_eq_true, decide_true, Nat.add_zero, Nat.reduceEqDiff, gt_iff_lt, outOf_val, h1]
  · by_cases h2 : (s.vals.length : Int) > 40
    · simp -implicitDefEqProofs only [code_ops, code_seq, code_cond, code_ret, ops_cons, ops_cons_g, ops_nil, aOp, opd, upd_at, initTm_at, stepVal, aBin, aLen, aInt, isShift, aWanted, aLoad1, aField, acells_agg, endFn, aResults, aResult, tupled, wipeR_int, beq_self_eq_true, Option.getD_some, List.length_nil, List.length_map, List.nil_append, List.getElem?_cons_zero, List.getElem?_cons_succ, ↓reduceIte, Bool.false_eq_true, decide_true, decide_false, Nat.add_zero, Nat.zero_add, Nat.reduceEqDiff, gt_iff_lt, outOf_val, h1, h2]
    · by_cases he : firstErr ((List.range s.datas.length).map (dataAt ca s.datas)) = 0
      · by_cases hg : firstErr ((List.range s.vals.length).map (valAt ca s.vals)) = 0
        · simp -implicitDefEqProofs only [code_skip, code_ops, code_seq, code_cond, code_ret, ops_cons, ops_cons_g, ops_nil, aOp, opd, upd_at, initTm_at, kt_cons, stepVal, aBin, aLen, aInt, isShift, aWanted, aLoad1, readAt, aField, acells_agg, endFn, aResults, aResult, tupled, code_loopF, gc_mk, gcIds_mk, newIds_nil, newIds_cons, gcMap_at, posOf, ren, renC, renO_box, idsV, idsC, idsO_box, wipe_agg, wipe_list, wipeR_int, wipeC_list, isData_list_none, isData_int, isData_agg, isData_ptr, isDataL_nil, isDataL_cons, beq_self_eq_true, Option.map_some, Option.getD_some, List.map_cons, List.map_nil, List.flatMap_cons, List.flatMap_nil, List.length_cons, List.length_nil, List.length_map, List.nil_append, List.append_nil, List.getElem?_cons_zero, List.getElem?_cons_succ, List.take_succ_cons, List.drop_zero, List.take_nil, List.not_mem_nil, ↓reduceIte, Bool.and_true, Bool.false_eq_true, and_true, not_true_eq_false, not_false_eq_true, decide_false, and_self, Nat.le_refl, Nat.add_zero, Nat.zero_add, Nat.reduceEqDiff, Nat.reduceAdd, Nat.reduceLT, Nat.reduceLeDiff, ne_eq, kt_nil, gt_iff_lt, onlyVal, data_Datas, data_Vals, outOf_val, h1, h2, hl0, hl1, he, hg, hki, doCall_p L hp, hp, ne_eq, not_true_eq_false]
        · simp -implicitDefEqProofs only [code_skip, code_ops, code_seq, code_cond, ops_cons, ops_cons_g, ops_nil, aOp, opd, upd_at, initTm_at, kt_cons, stepVal, aBin, aLen, aInt, isShift, aWanted, aLoad1, aField, acells_agg, endFn, aResults, aResult, tupled, code_loopF, gc_mk, gcIds_mk, newIds_nil, newIds_cons, gcMap_at, posOf, ren, renC, renO_box, idsV, idsC, idsO_box, wipeR_int, isData_list_none, isData_int, isData_ptr, beq_self_eq_true, Option.getD_some, List.map_cons, List.map_nil, List.flatMap_cons, List.flatMap_nil, List.length_cons, List.length_nil, List.length_map, List.nil_append, List.append_nil, List.getElem?_cons_zero, List.getElem?_cons_succ, List.take_succ_cons, List.take_nil, List.not_mem_nil, ↓reduceIte, Bool.false_eq_true, and_true, not_true_eq_false, not_false_eq_true, decide_false, Nat.le_refl, Nat.add_zero, Nat.zero_add, Nat.reduceEqDiff, Nat.reduceLT, Nat.reduceLeDiff, ne_eq, kt_nil, gt_iff_lt, data_Datas, data_Vals, outOf_val, h1, h2, hl0, hl1, he, hg, doCall_p L hp, hp, ne_eq, not_true_eq_false, not_false_eq_true]
      · simp -implicitDefEqProofs only [code_skip, code_ops, code_seq, code_cond, ops_cons, ops_cons_g, ops_nil, aOp, opd, upd_at, initTm_at, kt_cons, stepVal, aBin, aLen, aInt, isShift, aWanted, aLoad1, aField, acells_agg, endFn, aResults, aResult, tupled, code_loopF, gc_mk, gcIds_mk, newIds_nil, newIds_cons, gcMap_at, posOf, ren, renC, renO_box, idsV, idsC, idsO_box, wipeR_int, isData_list_none, isData_int, isData_ptr, beq_self_eq_true, Option.getD_some, List.map_cons, List.map_nil, List.flatMap_cons, List.flatMap_nil, List.length_cons, List.length_nil, List.length_map, List.nil_append, List.append_nil, List.getElem?_cons_zero, List.getElem?_cons_succ, List.take_succ_cons, List.take_nil, List.not_mem_nil, ↓reduceIte, Bool.false_eq_true, and_true, not_false_eq_true, decide_false, Nat.le_refl, Nat.add_zero, Nat.zero_add, Nat.reduceEqDiff, Nat.reduceLT, Nat.reduceLeDiff, ne_eq, gt_iff_lt, data_Datas, data_Vals, outOf_val, h1, h2, hl0, he, doCall_p L hp, hp, ne_eq, not_false_eq_true]

end Go.Abs
