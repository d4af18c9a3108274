/-
  What the check of a data type answers. Conditions: none.
-/
import Derived.Test.YtlielgleabghlaaDoorSigJ

set_option linter.unusedVariables false
set_option linter.unusedSimpArgs false
set_option maxRecDepth 100000
set_option maxHeartbeats 4000000
namespace Go.Abs

theorem dataError1_ok {L : Lib} (hL : Plain L) (hf : L.fns 59 = some fn59) (a c : ConSig) (h : Heap) :
    pcall L 59 [.agg [.str a.name, .list (a.args.map encTy) none], .vptr [.str c.name, .list (c.args.map encTy) none] 0] h = some (.val (.bool (decide (a.name = c.name))), h) := by
  refine pcall_fn hL hf rfl ?_ h
  unfold fn59
  simp -implicitDefEqProofs only [code_ops, code_seq, code_ret, ops_cons, ops_nil, aOp, opd, upd_at, initTm_at, stepVal, aBin, aStr, aLoad1, aField, acells_agg, endFn, aResults, aResult, tupled, wipeR_bool, Option.getD_some, List.length_nil, List.nil_append, List.getElem?_cons_zero, List.getElem?_cons_succ, ↓reduceIte, Nat.add_zero, Nat.reduceEqDiff, outOf_val]

def conError (ca : ByteArray → ByteArray → Bool) (params : Int) (pre : List ConSig) (c : ConSig) : Int :=
  if cutB ca c.name = true then 3 else if (c.args.length : Int) > 16 then 3 else if pre.any (fun a => decide (a.name = c.name)) = true then 7 else firstErr (c.args.map fun a => typeError a params 1)
def conErrAt (ca : ByteArray → ByteArray → Bool) (params : Int) (cons : List ConSig) (i : Nat) : Int := match cons[i]? with | some c => conError ca params (cons.take i) c | none => 0
def dataError (ca : ByteArray → ByteArray → Bool) (d : DataSig) : Int :=
  if cutB ca d.name = true then 3 else if d.params < 0 then 4 else if d.params > 8 then 4 else firstErr ((List.range d.cons.length).map (conErrAt ca d.params d.cons))

theorem dataError_l0 {L : Lib} (hL : Plain L) (h60 : L.fns 60 = some fn60) (h75 : L.fns 75 = some fn75) (d : DataSig) (as : List Ty) (hl : as.length < 2 ^ 30) (v20 v21 v22 : AVal) (hd20 : isData v20 = true) (hd21 : isData v21 = true) (hd22 : isData v22 = true) :
    loopF L.pure (call L) 2 [1, 20, 21, 22, 43, 44, 45] [1, 2, 20, 21, 22] 2 fn37_l0 ⟨kt [1, 20, 21, 22, 43, 44, 45] [.ptr (some (0, 0)), v20, v21, v22, .list (as.map encTy) none, .int .i64 as.length, .int .i64 0], [.box [.str d.name, .int .i64 d.params, .list (d.cons.map encCon) none], .gone]⟩ =
    some (if firstErr (as.map fun a => typeError a d.params 1) = 0 then (.normal, ⟨kt [1, 2, 20, 21, 22] [.ptr (some (0, 0)), .junk, v20, v21, v22], [.box [.str d.name, .int .i64 d.params, .list (d.cons.map encCon) none], .gone]⟩)
      else (.ret, ⟨kt [1, 2, 20, 21, 22] [.ptr (some (0, 0)), .int .i64 (firstErr (as.map fun a => typeError a d.params 1)), v20, v21, v22], [.box [.str d.name, .int .i64 d.params, .list (d.cons.map encCon) none], .gone]⟩)) := by
  have hp := hL.pure
  have hty := fun vars t h => typeError_ok hL h60 h75 vars t 1 (by omega) (by omega) h
  refine loopF_err as (fun a => typeError a d.params 1) (fun i => ⟨kt [1, 20, 21, 22, 43, 44, 45] [.ptr (some (0, 0)), v20, v21, v22, .list (as.map encTy) none, .int .i64 as.length, .int .i64 i], [.box [.str d.name, .int .i64 d.params, .list (d.cons.map encCon) none], .gone]⟩)
    ⟨kt [1, 2, 20, 21, 22] [.ptr (some (0, 0)), .junk, v20, v21, v22], _⟩ (fun e => ⟨kt [1, 2, 20, 21, 22] [.ptr (some (0, 0)), .int .i64 e, v20, v21, v22], _⟩) ?_ ?_ ?_
  · intro i hi he
    obtain ⟨h1, h2, h3⟩ := round_facts encTy as hl i hi
    generalize as[i] = a at *
    unfold fn37_l0
    simp -implicitDefEqProofs only [code_skip, code_ops, code_seq, code_cond, code_block, ops_cons, ops_nil, aOp, opd, upd_at, upd_none, kt_cons, stepVal, stepHeap, aBin, aInt, aIndexList, isShift, aLoad1, aStore, readAt, aField, leaf, acells_agg, cellsSet, gc_mk, gcIds_mk, newIds_nil, newIds_cons, gcMap_at, posOf, ren, renC, renO_gone, renO_box, idsV, idsC, idsO_gone, idsO_box, wipe_agg, wipe_int, wipeC_list, wipeC_int, wipeC_str, isData_list_none, isData_int, isData_str, isData_agg, isData_ptr, isDataL_nil, isDataL_cons, beq_self_eq_true, Option.map_some, List.map_cons, List.map_nil, List.flatMap_cons, List.flatMap_nil, List.length_cons, List.length_nil, List.cons_append, List.nil_append, List.append_nil, List.getElem?_cons_zero, List.getElem?_cons_succ, List.set_cons_zero, List.set_cons_succ, List.take_succ_cons, List.take_zero, List.drop_succ_cons, List.drop_zero, List.take_nil, List.drop_nil, List.all_cons, List.all_nil, List.not_mem_nil, ↓reduceIte, Bool.and_true, Bool.not_true, Bool.false_eq_true, and_true, not_false_eq_true, decide_true, and_self, Nat.le_refl, Nat.zero_add, Nat.reduceEqDiff, Nat.reduceAdd, Nat.reduceLT, Nat.reduceLeDiff, Int.toNat_natCast, Int.natCast_nonneg, roundF_eq, kt_nil, onlyVal, encTy_eq, data_Tys, data_Cons, h1, h2, h3, hty, he, hd20, hd21, hd22, doCall_p L hp, hp, bne]
  · intro i hi he
    obtain ⟨h1, h2, h3⟩ := round_facts encTy as hl i hi
    generalize as[i] = a at *
    have he : (typeError a d.params 1 == 0) = false := by simpa using he
    unfold fn37_l0
    simp -implicitDefEqProofs only [code_skip, code_ops, code_seq, code_cond, code_block, code_ret, ops_cons, ops_nil, aOp, opd, upd_at, upd_none, kt_cons, stepVal, stepHeap, aBin, aInt, aIndexList, isShift, aLoad1, aStore, readAt, aField, leaf, acells_agg, cellsSet, gcE, gc_mk, gcIds_mk, newIds_nil, newIds_cons, gcMap_at, posOf, ren, renC, renO_gone, renO_box, idsV, idsC, idsO_gone, idsO_box, wipe_agg, wipe_int, wipeC_list, wipeC_int, wipeC_str, isData_list_none, isData_int, isData_str, isData_agg, isData_ptr, isDataL_nil, isDataL_cons, Option.map_some, List.map_cons, List.map_nil, List.flatMap_cons, List.flatMap_nil, List.length_cons, List.length_nil, List.cons_append, List.nil_append, List.append_nil, List.getElem?_cons_zero, List.getElem?_cons_succ, List.set_cons_zero, List.set_cons_succ, List.take_succ_cons, List.take_zero, List.drop_succ_cons, List.drop_zero, List.take_nil, List.drop_nil, List.all_cons, List.all_nil, List.not_mem_nil, ↓reduceIte, Bool.and_true, Bool.not_false, Bool.false_eq_true, and_true, not_false_eq_true, decide_true, and_self, Nat.le_refl, Nat.zero_add, Nat.reduceEqDiff, Nat.reduceAdd, Nat.reduceLT, Nat.reduceLeDiff, Int.toNat_natCast, Int.natCast_nonneg, roundF_eq, kt_nil, onlyVal, encTy_eq, data_Tys, data_Cons, h1, h2, h3, hty, he, hd20, hd21, hd22, doCall_p L hp, hp, bne]
  · have h0 : ¬ ((as.length : Int) < as.length) := by omega
    unfold fn37_l0
    simp -implicitDefEqProofs only [code_ops, code_seq, code_cond, code_exit, ops_cons, ops_nil, aOp, opd, upd_at, kt_cons, stepVal, aBin, aInt, isShift, gcE, gc_mk, gcIds_mk, newIds_nil, newIds_cons, gcMap_at, posOf, ren, renC, renO_gone, renO_box, idsV, idsC, idsO_gone, idsO_box, isData_list_none, isData_int, isData_str, isData_ptr, isData_junk, List.map_cons, List.map_nil, List.flatMap_cons, List.flatMap_nil, List.length_cons, List.length_nil, List.append_nil, List.take_succ_cons, List.take_nil, List.not_mem_nil, ↓reduceIte, Bool.false_eq_true, and_true, not_false_eq_true, decide_false, Nat.le_refl, Nat.zero_add, Nat.reduceEqDiff, Nat.reduceAdd, Nat.reduceLT, Nat.reduceLeDiff, roundF_eq, kt_nil, data_Cons, h0, hd20, hd21, hd22]

theorem dataError_l1 {L : Lib} {ca : ByteArray → ByteArray → Bool} (hL : Plain L) (hP : Prims L ca) (h29 : L.fns 29 = some fn29) (h60 : L.fns 60 = some fn60) (h75 : L.fns 75 = some fn75) (h58 : L.fns 58 = some fn58) (h74 : L.fns 74 = some fn74) (h59 : L.fns 59 = some fn59)
    (d : DataSig) (hl : d.cons.length < 2 ^ 30) :
    loopF L.pure (call L) 1 [1, 20, 21, 22] [2] 0 fn37_l1 ⟨kt [1, 20, 21, 22] [.ptr (some (0, 0)), .list (d.cons.map encCon) none, .int .i64 d.cons.length, .int .i64 ((0 : Nat) : Int)], [.box [.str d.name, .int .i64 d.params, .list (d.cons.map encCon) none]]⟩ =
    some (if firstErr ((List.range d.cons.length).map (conErrAt ca d.params d.cons)) = 0 then (.normal, ⟨kt [2] [.junk], [.box [.str d.name, .int .i64 d.params, .list (d.cons.map encCon) none]]⟩)
      else (.ret, ⟨kt [2] [.int .i64 (firstErr ((List.range d.cons.length).map (conErrAt ca d.params d.cons)))], [.box [.str d.name, .int .i64 d.params, .list (d.cons.map encCon) none]]⟩)) := by
  have hp := hL.pure
  have hcut := cut_ok hL h29 hP.any
  have key : ∀ (i : Nat) (hi : i < d.cons.length) (h : Heap), pcall L 58 [.list ((d.cons.take i).map encCon) none, .func 59 [] [.vptr [.str d.cons[i].name, .list (d.cons[i].args.map encTy) none] 0]] h = some (.val (.bool ((d.cons.take i).any fun a => decide (a.name = d.cons[i].name))), h) := by
    intro i hi h
    refine con58 hL h58 h74 _ (by simp -implicitDefEqProofs only [isData_list_none, isData_str, isData_func, isData_vptr, isDataL_nil, isDataL_cons, Bool.and_true, data_Tys]) ⟨_, _, _, rfl⟩ (fun a => decide (a.name = d.cons[i].name)) (d.cons.take i) (by rw [List.length_take]; omega) (fun a _ h => ?_) h
    simp -implicitDefEqProofs only [wipe_agg, wipe_vptr, wipeC_list, wipeC_str, isData_list_none, isData_str, isData_agg, isData_vptr, isDataL_nil, isDataL_cons, List.map_cons, List.map_nil, List.nil_append, ↓reduceIte, Bool.and_true, data_Tys, doCall_p L hp, hp, dataError1_ok hL h59]
  refine loopF_err (List.range d.cons.length) (conErrAt ca d.params d.cons) (fun i => ⟨kt [1, 20, 21, 22] [.ptr (some (0, 0)), .list (d.cons.map encCon) none, .int .i64 d.cons.length, .int .i64 i], [.box [.str d.name, .int .i64 d.params, .list (d.cons.map encCon) none]]⟩)
    ⟨kt [2] [.junk], _⟩ (fun e => ⟨kt [2] [.int .i64 e], _⟩) ?_ ?_ ?_
  · intro i hi he
    rw [List.length_range] at hi
    rw [List.getElem_range] at he
    obtain ⟨h1, h2, h3⟩ := round_facts encCon d.cons hl i hi
    have h4 : (i : Int) ≤ d.cons.length := by omega
    have hk := key i hi
    have hl0 := fun (hlen : d.cons[i].args.length < 2 ^ 30) => dataError_l0 hL h60 h75 d d.cons[i].args hlen (.list (d.cons.map encCon) none) (.int .i64 d.cons.length) (.int .i64 i) (by simp -implicitDefEqProofs only [isData_list_none, data_Cons]) rfl rfl
    simp only [conErrAt, List.getElem?_eq_getElem hi, conError] at he
    generalize d.cons[i] = c at *
    unfold fn37_l1
    cases hc : cutB ca c.name
    · by_cases h16 : (c.args.length : Int) > 16
      · simp [hc, h16] at he
      · have hl0 := hl0 (by omega)
        cases ha : (d.cons.take i).any (fun a => decide (a.name = c.name))
        · simp only [hc, h16, ha, Bool.false_eq_true, if_false] at he
          simp only [he, if_true] at hl0
          simp -implicitDefEqProofs only [code_skip, code_ops, code_seq, code_cond, code_block, ops_cons, ops_cons_g, ops_nil, aOp, opd, upd_at, upd_none, kt_cons, stepVal, stepHeap, aBin, aLen, aInt, aIndexList, isShift, aWanted, aLoad1, aStore, readAt, aField, leaf, acells_agg, cellsSet, code_loopF, gc_mk, gcIds_mk, newIds_nil, newIds_cons, gcMap_at, posOf, ren, renC, renO_gone, renO_box, idsV, idsC, idsO_gone, idsO_box, wipe_list, wipe_str, wipe_func, isData_list_none, isData_int, isData_str, isData_func, isData_vptr, isData_ptr, isDataL_nil, isDataL_cons, beq_self_eq_true, Option.map_some, Option.map_none, List.map_cons, List.map_nil, List.flatMap_cons, List.flatMap_nil, List.length_cons, List.length_nil, List.length_map, List.cons_append, List.nil_append, List.append_nil, List.getElem?_cons_zero, List.getElem?_cons_succ, List.set_cons_zero, List.set_cons_succ, List.take_succ_cons, List.take_zero, List.drop_succ_cons, List.drop_zero, List.take_nil, List.drop_nil, List.all_cons, List.all_nil, List.not_mem_nil, ↓reduceIte, Bool.and_true, Bool.false_eq_true, and_true, not_false_eq_true, decide_true, decide_false, and_self, Nat.le_refl, reduceCtorEq, Nat.add_zero, Nat.zero_add, Nat.reduceEqDiff, Nat.reduceAdd, Nat.reduceLT, Nat.reduceLeDiff, Int.reduceToNat, Int.reduceLE, Int.toNat_natCast, Int.natCast_nonneg, roundF_eq, kt_nil, Int.cast_ofNat_Int, gt_iff_lt, code_freeze, freezeS_mk, frzT_at, frz, frzC, frzO, aSlice, intOr, onlyVal, encCon_eq, data_Tys, data_Cons, all_Cons, h1, h2, h3, h4, hcut, hc, h16, hk, ha, hl0, doCall_p L hp, hp, ← List.map_take]
        · simp [hc, h16, ha] at he
    · simp [hc] at he
  · intro i hi he
    rw [List.length_range] at hi
    rw [List.getElem_range] at he ⊢
    obtain ⟨h1, h2, h3⟩ := round_facts encCon d.cons hl i hi
    have h4 : (i : Int) ≤ d.cons.length := by omega
    have hk := key i hi
    have hl0 := fun (hlen : d.cons[i].args.length < 2 ^ 30) => dataError_l0 hL h60 h75 d d.cons[i].args hlen (.list (d.cons.map encCon) none) (.int .i64 d.cons.length) (.int .i64 i) (by simp -implicitDefEqProofs only [isData_list_none, data_Cons]) rfl rfl
    simp only [conErrAt, List.getElem?_eq_getElem hi, conError] at he ⊢
    generalize d.cons[i] = c at *
    unfold fn37_l1
    cases hc : cutB ca c.name
    · by_cases h16 : (c.args.length : Int) > 16
      · simp -implicitDefEqProofs only [code_skip, code_ops, code_seq, code_cond, code_block, code_ret, ops_cons, ops_cons_g, ops_nil, aOp, opd, upd_at, upd_none, kt_cons, stepVal, stepHeap, aBin, aLen, aInt, aIndexList, isShift, aWanted, aLoad1, aStore, readAt, aField, leaf, acells_agg, cellsSet, gcE, gc_mk, gcIds_mk, newIds_nil, gcMap_at, posOf, ren, renC, renO_box, idsV, idsC, idsO_box, wipe_str, isData_list_none, isData_int, isData_str, isDataL_nil, isDataL_cons, beq_self_eq_true, Option.map_some, List.map_cons, List.map_nil, List.flatMap_cons, List.flatMap_nil, List.length_cons, List.length_nil, List.length_map, List.cons_append, List.nil_append, List.append_nil, List.getElem?_cons_zero, List.getElem?_cons_succ, List.set_cons_zero, List.set_cons_succ, List.take_succ_cons, List.take_zero, List.drop_succ_cons, List.drop_zero, List.take_nil, List.drop_nil, List.all_cons, List.all_nil, ↓reduceIte, Bool.and_true, Bool.false_eq_true, decide_true, and_self, Nat.le_refl, Nat.add_zero, Nat.zero_add, Nat.reduceEqDiff, Nat.reduceAdd, Nat.reduceLeDiff, Int.toNat_natCast, Int.natCast_nonneg, roundF_eq, kt_nil, gt_iff_lt, onlyVal, encCon_eq, data_Cons, h1, h2, h3, h4, hcut, hc, h16, doCall_p L hp, hp]
      · have hl0 := hl0 (by omega)
        cases ha : (d.cons.take i).any (fun a => decide (a.name = c.name))
        · simp only [hc, h16, ha, Bool.false_eq_true, if_false] at he
          simp only [he, if_false] at hl0
          simp -implicitDefEqProofs only [code_skip, code_ops, code_seq, code_cond, code_block, ops_cons, ops_cons_g, ops_nil, aOp, opd, upd_at, upd_none, kt_cons, stepVal, stepHeap, aBin, aLen, aInt, aIndexList, isShift, aWanted, aLoad1, aStore, readAt, aField, leaf, acells_agg, cellsSet, code_loopF, gcE, gc_mk, gcIds_mk, newIds_nil, newIds_cons, gcMap_at, posOf, ren, renC, renO_gone, renO_box, idsV, idsC, idsO_gone, idsO_box, wipe_list, wipe_str, wipe_func, isData_list_none, isData_int, isData_str, isData_func, isData_vptr, isData_ptr, isDataL_nil, isDataL_cons, beq_self_eq_true, Option.map_some, Option.map_none, List.map_cons, List.map_nil, List.flatMap_cons, List.flatMap_nil, List.length_cons, List.length_nil, List.length_map, List.cons_append, List.nil_append, List.append_nil, List.getElem?_cons_zero, List.getElem?_cons_succ, List.set_cons_zero, List.set_cons_succ, List.take_succ_cons, List.take_zero, List.drop_succ_cons, List.drop_zero, List.take_nil, List.drop_nil, List.all_cons, List.all_nil, List.not_mem_nil, ↓reduceIte, Bool.and_true, Bool.false_eq_true, and_true, not_false_eq_true, decide_true, decide_false, and_self, Nat.le_refl, reduceCtorEq, Nat.add_zero, Nat.zero_add, Nat.reduceEqDiff, Nat.reduceAdd, Nat.reduceLT, Nat.reduceLeDiff, Int.reduceToNat, Int.reduceLE, Int.toNat_natCast, Int.natCast_nonneg, roundF_eq, kt_nil, Int.cast_ofNat_Int, gt_iff_lt, code_freeze, freezeS_mk, frzT_at, frz, frzC, frzO, aSlice, intOr, onlyVal, encCon_eq, data_Tys, data_Cons, all_Cons, h1, h2, h3, h4, hcut, hc, h16, hk, ha, hl0, doCall_p L hp, hp, ← List.map_take]
        · simp -implicitDefEqProofs only [code_skip, code_ops, code_seq, code_cond, code_block, code_ret, ops_cons, ops_cons_g, ops_nil, aOp, opd, upd_at, upd_none, kt_cons, stepVal, stepHeap, aBin, aLen, aInt, aIndexList, isShift, aWanted, aLoad1, aStore, readAt, aField, leaf, acells_agg, cellsSet, gcE, gc_mk, gcIds_mk, newIds_nil, gcMap_at, posOf, ren, renC, renO_box, idsV, idsC, idsO_box, wipe_list, wipe_str, wipe_func, isData_list_none, isData_int, isData_str, isData_func, isData_vptr, isDataL_nil, isDataL_cons, beq_self_eq_true, Option.map_some, Option.map_none, List.map_cons, List.map_nil, List.flatMap_cons, List.flatMap_nil, List.length_cons, List.length_nil, List.length_map, List.cons_append, List.nil_append, List.append_nil, List.getElem?_cons_zero, List.getElem?_cons_succ, List.set_cons_zero, List.set_cons_succ, List.take_succ_cons, List.take_zero, List.drop_succ_cons, List.drop_zero, List.take_nil, List.drop_nil, List.all_cons, List.all_nil, ↓reduceIte, Bool.and_true, Bool.false_eq_true, decide_true, decide_false, and_self, Nat.le_refl, reduceCtorEq, Nat.add_zero, Nat.zero_add, Nat.reduceEqDiff, Nat.reduceAdd, Nat.reduceLeDiff, Int.reduceToNat, Int.reduceLE, Int.toNat_natCast, Int.natCast_nonneg, roundF_eq, kt_nil, Int.cast_ofNat_Int, gt_iff_lt, code_freeze, freezeS_mk, frzT_at, frz, frzC, frzO, aSlice, intOr, onlyVal, encCon_eq, data_Tys, data_Cons, all_Cons, h1, h2, h3, h4, hcut, hc, h16, hk, ha, doCall_p L hp, hp, ← List.map_take]
    · simp -implicitDefEqProofs only [code_skip, code_ops, code_seq, code_cond, code_block, code_ret, ops_cons, ops_cons_g, ops_nil, aOp, opd, upd_at, upd_none, kt_cons, stepVal, stepHeap, aBin, aInt, aIndexList, isShift, aWanted, aLoad1, aStore, readAt, aField, leaf, acells_agg, cellsSet, gcE, gc_mk, gcIds_mk, newIds_nil, gcMap_at, posOf, ren, renC, renO_box, idsV, idsC, idsO_box, wipe_str, isData_list_none, isData_int, isData_str, isDataL_nil, isDataL_cons, beqTF, Option.map_some, List.map_cons, List.map_nil, List.flatMap_cons, List.flatMap_nil, List.length_cons, List.length_nil, List.cons_append, List.nil_append, List.append_nil, List.getElem?_cons_zero, List.getElem?_cons_succ, List.set_cons_zero, List.set_cons_succ, List.take_succ_cons, List.take_zero, List.drop_succ_cons, List.drop_zero, List.take_nil, List.drop_nil, List.all_cons, List.all_nil, ↓reduceIte, Bool.and_true, Bool.false_eq_true, decide_true, and_self, Nat.le_refl, Nat.add_zero, Nat.zero_add, Nat.reduceEqDiff, Nat.reduceAdd, Nat.reduceLeDiff, Int.toNat_natCast, Int.natCast_nonneg, roundF_eq, kt_nil, onlyVal, encCon_eq, data_Cons, h1, h2, h3, h4, hcut, hc, doCall_p L hp, hp]
  · rw [List.length_range]
    have h0 : ¬ ((d.cons.length : Int) < d.cons.length) := by omega
    unfold fn37_l1
    simp -implicitDefEqProofs only [code_ops, code_seq, code_cond, code_exit, ops_cons, ops_nil, aOp, opd, upd_at, kt_cons, stepVal, aBin, aInt, isShift, gcE, gc_mk, gcIds_mk, newIds_nil, gcMap_at, posOf, ren, renC, renO_box, idsV, idsC, idsO_box, isData_list_none, isData_int, isData_str, isData_junk, List.map_cons, List.map_nil, List.flatMap_cons, List.flatMap_nil, List.length_cons, List.length_nil, List.append_nil, List.take_succ_cons, List.take_nil, ↓reduceIte, Bool.false_eq_true, decide_false, Nat.le_refl, Nat.zero_add, Nat.reduceEqDiff, roundF_eq, kt_nil, data_Cons, h0]

theorem dataError_ok {L : Lib} {ca : ByteArray → ByteArray → Bool} (hL : Plain L) (hP : Prims L ca) (h29 : L.fns 29 = some fn29) (h60 : L.fns 60 = some fn60) (h75 : L.fns 75 = some fn75) (h58 : L.fns 58 = some fn58) (h74 : L.fns 74 = some fn74) (h59 : L.fns 59 = some fn59) (hf : L.fns 37 = some fn37)
    (d : DataSig) (hl : d.cons.length < 2 ^ 30) (h : Heap) :
    pcall L 37 [.agg [.str d.name, .int .i64 d.params, .list (d.cons.map encCon) none]] h = some (.val (.int .i64 (dataError ca d)), h) := by
  have hp := hL.pure
  have hcut := cut_ok hL h29 hP.any
  have hloop := dataError_l1 hL hP h29 h60 h75 h58 h74 h59 d hl
  simp only [Int.natCast_zero] at hloop
  refine pcall_fn hL hf rfl ?_ h
  unfold fn37 dataError
  cases hc : cutB ca d.name
  · by_cases hv1 : d.params < 0
    · simp -implicitDefEqProofs only [code_skip, code_ops, code_seq, code_cond, code_ret, ops_cons, ops_cons_g, ops_nil, aOp, opd, upd_at, initTm_at, stepVal, aBin, aInt, isShift, aWanted, aLoad1, aField, acells_agg, endFn, aResults, aResult, tupled, wipe_str, wipeR_int, isData_str, isDataL_nil, isDataL_cons, beqTF, Option.getD_some, List.map_cons, List.map_nil, List.length_nil, List.nil_append, List.getElem?_cons_zero, List.getElem?_cons_succ, ↓reduceIte, Bool.and_true, Bool.false_eq_true, decide_true, and_self, Nat.add_zero, Nat.zero_add, Nat.reduceEqDiff, onlyVal, outOf_val, hcut, hc, hv1, doCall_p L hp, hp]
    · by_cases hv2 : d.params > 8
      · simp -implicitDefEqProofs only [code_skip, code_ops, code_seq, code_cond, code_ret, ops_cons, ops_cons_g, ops_nil, aOp, opd, upd_at, initTm_at, stepVal, aBin, aInt, isShift, aWanted, aLoad1, aField, acells_agg, endFn, aResults, aResult, tupled, wipe_str, wipeR_int, isData_str, isDataL_nil, isDataL_cons, beq_self_eq_true, Option.getD_some, List.map_cons, List.map_nil, List.length_nil, List.nil_append, List.getElem?_cons_zero, List.getElem?_cons_succ, ↓reduceIte, Bool.and_true, Bool.false_eq_true, decide_true, decide_false, and_self, Nat.add_zero, Nat.zero_add, Nat.reduceEqDiff, gt_iff_lt, onlyVal, outOf_val, hcut, hc, hv1, hv2, doCall_p L hp, hp]
      · by_cases he : firstErr ((List.range d.cons.length).map (conErrAt ca d.params d.cons)) = 0 <;> simp -implicitDefEqProofs only [code_skip, code_ops, code_seq, code_cond, code_ret, ops_cons, ops_cons_g, ops_nil, aOp, opd, upd_at, initTm_at, kt_cons, stepVal, aBin, aLen, aInt, isShift, aWanted, aLoad1, aField, acells_agg, endFn, aResults, aResult, tupled, code_loopF, gc_mk, gcIds_mk, newIds_nil, newIds_cons, gcMap_at, posOf, ren, renC, renO_box, idsV, idsC, idsO_box, wipe_str, wipeR_int, isData_list_none, isData_int, isData_str, isData_ptr, isDataL_nil, isDataL_cons, beq_self_eq_true, Option.getD_some, List.map_cons, List.map_nil, List.flatMap_cons, List.flatMap_nil, List.length_cons, List.length_nil, List.length_map, List.nil_append, List.append_nil, List.getElem?_cons_zero, List.getElem?_cons_succ, List.take_succ_cons, List.take_nil, List.not_mem_nil, ↓reduceIte, Bool.and_true, Bool.false_eq_true, and_true, not_false_eq_true, decide_false, and_self, Nat.le_refl, Nat.add_zero, Nat.zero_add, Nat.reduceEqDiff, Nat.reduceLT, Nat.reduceLeDiff, gt_iff_lt, onlyVal, data_Cons, outOf_val, hcut, hc, hv1, hv2, hloop, he, doCall_p L hp, hp]
  · simp -implicitDefEqProofs only [code_ops, code_seq, code_cond, code_ret, ops_cons, ops_nil, aOp, opd, upd_at, initTm_at, stepVal, aLoad1, aField, acells_agg, endFn, aResults, aResult, tupled, wipe_str, wipeR_int, isData_str, isDataL_nil, isDataL_cons, Option.getD_some, List.map_cons, List.map_nil, List.length_nil, List.nil_append, List.getElem?_cons_zero, ↓reduceIte, Bool.and_true, and_self, Nat.add_zero, Nat.reduceEqDiff, onlyVal, outOf_val, hcut, hc, doCall_p L hp, hp]

end Go.Abs
