/-
  What the maps of a module's types are. Conditions: none.
-/
import Derived.Test.YtlielgleabghlaaDoorSigL

set_option linter.unusedVariables false
set_option linter.unusedSimpArgs false
set_option maxRecDepth 100000
set_option maxHeartbeats 4000000
namespace Go.Abs

theorem variables_ok {L : Lib} (hL : Plain L) (hf : L.fns 53 = some fn53) (n : Int) (hn : n < 2 ^ 30) (h : Heap) : pcall L 53 [.int .i64 n] h = some (.val (.list ((variables n).map encTy) none), h) := by
  have hp := hL.pure
  by_cases h0 : n ≤ 0
  · have hv : variables n = [] := by unfold variables; rw [show n.toNat = 0 by omega]; rfl
    rw [hv]
    refine pcall_fn hL hf rfl ?_ h
    have hloop : loopF L.pure (call L) 0 [3, 5, 6] [3] 0 fn53_l0 ⟨kt [3, 5, 6] [.list [] (some none), .int .i64 n, .int .i64 0], []⟩ = some (.normal, ⟨kt [3] [.list [] (some none)], []⟩) := by
      refine loopF_exit ?_
      have h1 : ¬ (0 < n) := by omega
      unfold fn53_l0
      simp -implicitDefEqProofs only [code_ops, code_seq, code_cond, code_exit, ops_cons, ops_nil, aOp, opd, upd_at, kt_cons, stepVal, aBin, aInt, isShift, gcE, gc_mk, gcIds_mk, newIds_nil, gcMap_at, posOf, ren, renC, renO_gone, idsV, idsC, isData_list_full, isDataL_nil, Option.getD_none, List.map_cons, List.map_nil, List.flatMap_cons, List.flatMap_nil, List.length_nil, List.append_nil, List.getElem?_nil, List.take_nil, ↓reduceIte, Bool.false_eq_true, decide_false, Nat.le_refl, Nat.reduceEqDiff, roundF_eq, kt_nil, h1]
    unfold fn53
    simp -implicitDefEqProofs only [code_ops, code_seq, code_ret, ops_cons, ops_nil, aOp, opd, upd_at, initTm_at, kt_cons, endFn, aResults, aResult, tupled, code_loopF, gc_mk, gcIds_mk, newIds_nil, gcMap_at, posOf, ren, renC, renO_gone, idsV, idsC, wipeR_list, isData_list_full, isData_int, isDataL_nil, Option.getD_some, Option.getD_none, List.map_cons, List.map_nil, List.flatMap_cons, List.flatMap_nil, List.length_nil, List.append_nil, List.getElem?_nil, List.getElem?_cons_zero, List.take_nil, ↓reduceIte, Nat.le_refl, reduceCtorEq, Nat.reduceEqDiff, outOf_val, hloop]
  · have hm : (List.range n.toNat).length < 2 ^ 30 := by rw [List.length_range]; omega
    have hloop := loopF_append (pure := L.pure) (call := call L) (b := 0) (keep := [3, 5, 6]) (fk := [3]) (id := 0) (body := fn53_l0) (List.range n.toNat) (fun i => Ty.mk 0 ⟨#[]⟩ (i : Nat) [])
      (fun outs i => ⟨kt [3, 5, 6] [.list (outs.map encTy) (ownAt 0 i), .int .i64 n, .int .i64 i], tailAt 4 i⟩) ⟨kt [3] [.list ((variables n).map encTy) (ownAt 0 n.toNat)], tailAt 4 n.toNat⟩
      (by
        intro i hi outs hlen
        rw [List.getElem_range]
        rw [List.length_range] at hi
        have h1 : (i : Int) < n := by omega
        have h2 : IntKind.i64.wrap ((i : Int) + 1) = ((i + 1 : Nat) : Int) := by rw [wrap64 (by omega) (by omega)]; rfl
        have hm : i + 1 ≤ 1073741824 := by omega
        cases i with
        | zero =>
          obtain rfl := List.eq_nil_of_length_eq_zero hlen
          have h1 : 0 < n := by omega
          have h2 : IntKind.i64.wrap 1 = 1 := by decide
          unfold fn53_l0
          simp -implicitDefEqProofs only [code_skip, code_ops, code_seq, code_cond, code_block, ops_cons, ops_nil, aOp, opd, upd_at, kt_cons, stepVal, aBin, aInt, isShift, fillA, known, leaf, acells_agg, acells_int, cellsSet, gc_mk, gcIds_mk, newIds_nil, newIds_cons, gcMap_at, posOf, ren, renC, renO_tail, idsV, idsC, aAppend, wipe_agg, wipeC_list, wipeC_int, wipeC_str, isData_list_none, isData_list_tail, isData_int, isData_str, isData_agg, isDataL_nil, isDataL_cons, Option.map_some, Option.getD_some, List.map_cons, List.map_nil, List.flatMap_cons, List.flatMap_nil, List.length_cons, List.length_nil, List.cons_append, List.nil_append, List.append_nil, List.getElem?_cons_zero, List.take_succ_cons, List.take_zero, List.drop_succ_cons, List.drop_zero, List.all_cons, List.all_nil, List.not_mem_nil, ↓reduceIte, Bool.and_true, Bool.false_eq_true, not_false_eq_true, decide_true, and_self, Nat.le_refl, Nat.zero_le, Nat.zero_add, Nat.reduceEqDiff, Nat.reduceAdd, Nat.reduceLT, Nat.reduceLeDiff, List.cons_ne_nil, roundF_eq, maxLen_eq, Int.reduceAdd, kt_nil, Int.cast_ofNat_Int, encTy_eq, Ty.kind_mk, Ty.name_mk, Ty.var_mk, Ty.args_mk, ownAt_zero, ownAt_succ, tailAt_zero, tailAt_succ, h1, h2]
        | succ j =>
          unfold fn53_l0
          simp -implicitDefEqProofs only [code_skip, code_ops, code_seq, code_cond, code_block, ops_cons, ops_nil, aOp, opd, upd_at, kt_cons, stepVal, aBin, aInt, isShift, fillA, known, leaf, acells_agg, acells_int, cellsSet, gc_mk, gcIds_mk, newIds_nil, newIds_cons, gcMap_at, posOf, ren, renC, renO_tail, idsV, idsC, aAppend, wipe_agg, wipeC_list, wipeC_int, wipeC_str, isData_list_none, isData_list_tail, isData_int, isData_str, isData_agg, isDataL_nil, isDataL_cons, isDataL_append, Option.map_some, Option.getD_some, List.map_cons, List.map_nil, List.flatMap_cons, List.flatMap_nil, List.length_cons, List.length_nil, List.length_map, List.cons_append, List.nil_append, List.append_nil, List.getElem?_cons_zero, List.set_cons_zero, List.take_succ_cons, List.take_zero, List.drop_succ_cons, List.drop_zero, List.all_cons, List.all_nil, List.not_mem_nil, ↓reduceIte, Bool.and_true, Bool.false_eq_true, not_false_eq_true, decide_true, and_self, Nat.le_refl, Nat.zero_le, Nat.zero_add, Nat.reduceEqDiff, Nat.reduceAdd, Nat.reduceLT, Nat.reduceLeDiff, List.cons_ne_nil, roundF_eq, maxLen_eq, List.map_append, kt_nil, encTy_eq, data_Tys, all_Tys, Ty.kind_mk, Ty.name_mk, Ty.var_mk, Ty.args_mk, ownAt_succ, tailAt_succ, h1, h2, hlen, hm])
      (by
        rw [List.length_range]
        have h1 : ¬ ((n.toNat : Int) < n) := by omega
        unfold fn53_l0 variables
        rcases own_cases 0 4 n.toNat with ⟨g1, g2⟩ | ⟨g1, g2⟩ <;> simp -implicitDefEqProofs only [code_ops, code_seq, code_cond, code_exit, ops_cons, ops_nil, aOp, opd, upd_at, kt_cons, stepVal, aBin, aInt, isShift, gcE, gc_mk, gcIds_mk, newIds_nil, newIds_cons, gcMap_at, posOf, ren, renC, renO_gone, renO_tail, idsV, idsC, isData_list_full, isData_list_tail, Option.getD_some, Option.getD_none, List.map_cons, List.map_nil, List.flatMap_cons, List.flatMap_nil, List.length_cons, List.length_nil, List.nil_append, List.append_nil, List.getElem?_nil, List.getElem?_cons_zero, List.take_zero, List.take_nil, List.not_mem_nil, ↓reduceIte, Bool.false_eq_true, not_false_eq_true, decide_false, and_self, Nat.le_refl, Nat.zero_le, Nat.zero_add, Nat.reduceEqDiff, Nat.reduceLT, roundF_eq, kt_nil, data_Tys, h1, g1, g2])
    simp only [Int.natCast_zero, ownAt_zero, tailAt_zero, List.map_nil] at hloop
    refine pcall_fn hL hf (by simp -implicitDefEqProofs only [isData_list_none, data_Tys]) ?_ h
    unfold fn53
    rcases own_cases 0 4 n.toNat with ⟨g1, g2⟩ | ⟨g1, g2⟩ <;> simp -implicitDefEqProofs only [code_ops, code_seq, code_ret, ops_cons, ops_nil, aOp, opd, upd_at, initTm_at, kt_cons, endFn, aResults, aResult, tupled, code_loopF, gc_mk, gcIds_mk, newIds_nil, gcMap_at, posOf, ren, renC, renO_gone, idsV, idsC, wipeR_list, isData_list_full, isData_int, isDataL_nil, Option.getD_some, Option.getD_none, List.map_cons, List.map_nil, List.flatMap_cons, List.flatMap_nil, List.length_nil, List.append_nil, List.getElem?_nil, List.getElem?_cons_zero, List.take_nil, ↓reduceIte, Nat.le_refl, reduceCtorEq, Nat.reduceEqDiff, outOf_val, hloop, g1, g2]

def FitCon (c : ConSig) : Prop := c.args.length < 2 ^ 30 ∧ ∀ t ∈ c.args, TyFit t
def FitData (d : DataSig) : Prop := d.cons.length < 2 ^ 30 ∧ d.name.size ≤ 2 ^ 40 ∧ ∀ c ∈ d.cons, FitCon c
def sameCon (a b : ConSig) : Bool := decide (a.name = b.name) && eqF sameType a.args b.args
theorem sameCon_ok {L : Lib} (hL : Plain L) (h71 : L.fns 71 = some fn71) (h70 : L.fns 70 = some fn70) (hf : L.fns 52 = some fn52) (a b : ConSig) (ha : FitCon a) (h : Heap) :
    pcall L 52 [.agg [.str a.name, .list (a.args.map encTy) none], .agg [.str b.name, .list (b.args.map encTy) none]] h = some (.val (.bool (sameCon a b)), h) := by
  have hp := hL.pure
  have heq := eqf70 hL h70 71 sameType a.args b.args ha.1 (fun x hx y _ h => same_ok hL h71 h70 x (ha.2 x hx) y h)
  refine pcall_fn hL hf rfl ?_ h
  unfold fn52 sameCon
  cases h6 : decide (a.name = b.name) <;> simp -implicitDefEqProofs only [code_ops, code_seq, code_ret, ops_cons, ops_cons_g, ops_nil, aOp, opd, upd_at, initTm_at, stepVal, aBin, aStr, aWanted, aLoad1, aField, acells_agg, endFn, aResults, aResult, tupled, wipe_list, wipeR_bool, wipe_func, isData_list_none, isData_func, isDataL_nil, isDataL_cons, beqFT, beq_self_eq_true, Option.getD_some, List.map_cons, List.map_nil, List.length_cons, List.length_nil, List.cons_append, List.nil_append, List.append_nil, List.getElem?_cons_zero, List.getElem?_cons_succ, ↓reduceIte, Bool.and_true, Bool.true_and, Bool.false_and, Bool.false_eq_true, Nat.add_zero, Nat.zero_add, Nat.reduceEqDiff, data_Tys, outOf_val, h6, heq, doCall_p L hp, hp]

def dot : ByteArray := ⟨#[46]⟩
def mapOf (front : ByteArray) (d : DataSig) : SigMap := ⟨d.name, .mk 1 (front ++ ⟨#[46]⟩ ++ d.name) 0 (variables d.params)⟩
theorem sizes_ok {front nm : ByteArray} (h1 : front.size ≤ 2 ^ 40) (h2 : nm.size ≤ 2 ^ 40) : front.size + (⟨#[46]⟩ : ByteArray).size ≤ 2 ^ 60 ∧ (front ++ ⟨#[46]⟩).size + nm.size ≤ 2 ^ 60 := by
  have : (⟨#[46]⟩ : ByteArray).size = 1 := rfl
  rw [ByteArray.size_append, this]
  omega
def outer_C (S : SigSpec) (front : ByteArray) (ds : List DataSig) (outs : List SigMap) (i : Nat) : St :=
  ⟨kt [1, 5, 9, 10, 11] [.str front, .list (outs.map encMap) (ownAt 1 i), .list (ds.map encData) none, .int .i64 ds.length, .int .i64 i], .box [.list (S.datas.map encData) none, .list (S.vals.map encVal) none] :: tailAt 5 i⟩
theorem outer_l0 {L : Lib} (hL : Plain L) (h53 : L.fns 53 = some fn53) (S : SigSpec) (front : ByteArray) (hfr : front.size ≤ 2 ^ 40) (ds : List DataSig) (hl : ds.length < 2 ^ 30) (hd : ∀ d ∈ ds, d.name.size ≤ 2 ^ 40 ∧ d.params < 2 ^ 30) :
    loopF L.pure (call L) 1 [1, 5, 9, 10, 11] [5] 0 fn31_l0 (outer_C S front ds [] 0) = some (.normal, ⟨kt [5] [.list ((ds.map (mapOf front)).map encMap) (ownAt 1 ds.length)], (outer_C S front ds [] ds.length).h⟩) := by
  have hp := hL.pure
  refine loopF_append ds (mapOf front) (outer_C S front ds) _ (by
      intro i hi outs hlen
      obtain ⟨h1, h2, h3⟩ := round_facts encData (ds) hl i hi
      have hm : i + 1 ≤ 1073741824 := by omega
      have ih1 := variables_ok hL h53 ds[i].params (hd _ (List.getElem_mem hi)).2
      obtain ⟨hs1, hs2⟩ := sizes_ok hfr (hd _ (List.getElem_mem hi)).1
      cases i with
      | zero =>
        obtain rfl := List.eq_nil_of_length_eq_zero hlen
        have h1 : (0 : Int) < (ds).length := by omega
        have h2 : IntKind.i64.wrap 1 = 1 := by decide
        generalize (ds)[0] = a at *
        unfold fn31_l0 outer_C mapOf
        simp -implicitDefEqProofs only [code_skip, code_ops, code_draw, code_seq, code_cond, code_block, ops_cons, ops_nil, aOp, opd, upd_at, upd_none, kt_cons, stepVal, stepHeap, aBin, aStr, aInt, aIndexList, isShift, aWanted, aLoad1, aStore, readAt, aField, fillA, known, leaf, acells_agg, acells_int, acells_str, acells_list, cellsSet, gc_mk, gcIds_mk, newIds_nil, newIds_cons, gcMap_at, posOf, ren, renC, renO_box, renO_tail, idsV, idsC, idsO_box, draw_eq, opsH_nil, opsH_cons, isLoud, aAppend, wipe_agg, wipe_int, wipeC_list, wipeC_int, wipeC_str, isData_list_none, isData_list_tail, isData_int, isData_str, isData_agg, isDataL_nil, isDataL_cons, Option.map_some, Option.getD_some, List.map_cons, List.map_nil, List.flatMap_cons, List.flatMap_nil, List.length_cons, List.length_nil, List.cons_append, List.nil_append, List.append_nil, List.getElem?_cons_zero, List.getElem?_cons_succ, List.set_cons_zero, List.set_cons_succ, List.take_succ_cons, List.take_zero, List.drop_succ_cons, List.drop_zero, List.take_nil, List.drop_nil, List.all_cons, List.all_nil, List.not_mem_nil, ↓reduceIte, Bool.and_true, Bool.false_eq_true, not_false_eq_true, decide_true, and_self, Nat.le_refl, Nat.add_zero, Nat.zero_add, Nat.reduceEqDiff, Nat.reduceAdd, Nat.reduceLT, Nat.reduceLeDiff, Int.reduceToNat, Int.reduceLE, List.cons_ne_nil, roundF_eq, maxLen_eq, checksP_nil, drawTo_if, Int.reduceAdd, kt_nil, Int.cast_ofNat_Int, onlyVal, encData_eq, encMap_eq, data_Tys, data_Datas, data_Vals, Ty.kind_mk, Ty.name_mk, Ty.var_mk, Ty.args_mk, ownAt_zero, ownAt_succ, tailAt_zero, tailAt_succ, h1, h2, h3, ih1, hs1, hs2, doCall_p L hp, hp]
      | succ j =>
        generalize (ds)[j + 1] = a at *
        unfold fn31_l0 outer_C mapOf
        simp -implicitDefEqProofs only [code_skip, code_ops, code_draw, code_seq, code_cond, code_block, ops_cons, ops_nil, aOp, opd, upd_at, upd_none, kt_cons, stepVal, stepHeap, aBin, aStr, aInt, aIndexList, isShift, aWanted, aLoad1, aStore, readAt, aField, fillA, known, leaf, acells_agg, acells_int, acells_str, acells_list, cellsSet, gc_mk, gcIds_mk, newIds_nil, newIds_cons, gcMap_at, posOf, ren, renC, renO_box, renO_tail, idsV, idsC, idsO_box, draw_eq, opsH_nil, opsH_cons, isLoud, aAppend, wipe_agg, wipe_int, wipeC_list, wipeC_int, wipeC_str, isData_list_none, isData_list_tail, isData_int, isData_str, isData_agg, isDataL_nil, isDataL_cons, isDataL_append, Option.map_some, Option.getD_some, List.map_cons, List.map_nil, List.flatMap_cons, List.flatMap_nil, List.length_cons, List.length_nil, List.length_map, List.cons_append, List.nil_append, List.append_nil, List.getElem?_cons_zero, List.getElem?_cons_succ, List.set_cons_zero, List.set_cons_succ, List.take_succ_cons, List.take_zero, List.drop_succ_cons, List.drop_zero, List.take_nil, List.drop_nil, List.all_cons, List.all_nil, List.not_mem_nil, ↓reduceIte, Bool.and_true, Bool.false_eq_true, not_false_eq_true, decide_true, and_self, Nat.le_refl, Nat.add_zero, Nat.zero_add, Nat.reduceEqDiff, Nat.reduceAdd, Nat.reduceLT, Nat.reduceLeDiff, Int.toNat_natCast, Int.natCast_nonneg, List.cons_ne_nil, roundF_eq, maxLen_eq, checksP_nil, drawTo_if, List.map_append, kt_nil, onlyVal, encData_eq, encMap_eq, data_Tys, data_Datas, data_Vals, data_Maps, all_Maps, Ty.kind_mk, Ty.name_mk, Ty.var_mk, Ty.args_mk, ownAt_succ, tailAt_succ, h1, h2, h3, hlen, hm, ih1, hs1, hs2, doCall_p L hp, hp]) (by
      have h0 : ¬ (((ds).length : Int) < (ds).length) := by omega
      unfold fn31_l0 outer_C
      rcases own_cases 1 5 (ds).length with ⟨h1, h2⟩ | ⟨h1, h2⟩ <;>
        simp -implicitDefEqProofs only [code_ops, code_seq, code_cond, code_exit, ops_cons, ops_nil, aOp, opd, upd_at, kt_cons, stepVal, aBin, aInt, isShift, gcE, gc_mk, gcIds_mk, newIds_nil, newIds_cons, gcMap_at, posOf, ren, renC, renO_box, renO_tail, idsV, idsC, idsO_box, isData_list_none, isData_list_full, isData_list_tail, Option.getD_some, List.map_cons, List.map_nil, List.flatMap_cons, List.flatMap_nil, List.length_cons, List.length_nil, List.cons_append, List.nil_append, List.append_nil, List.getElem?_cons_zero, List.getElem?_cons_succ, List.take_succ_cons, List.take_zero, List.take_nil, List.not_mem_nil, ↓reduceIte, Bool.false_eq_true, not_false_eq_true, decide_false, and_self, Nat.le_refl, Nat.zero_add, Nat.reduceEqDiff, Nat.reduceAdd, Nat.reduceLT, Nat.reduceLeDiff, roundF_eq, kt_nil, data_Datas, data_Vals, data_Maps, h0, h1, h2, hp])
theorem outer_ok {L : Lib} (hL : Plain L) (h53 : L.fns 53 = some fn53) (hf : L.fns 31 = some fn31) (S : SigSpec) (front : ByteArray) (hfr : front.size ≤ 2 ^ 40) (hl : S.datas.length < 2 ^ 30) (hd : ∀ d ∈ S.datas, d.name.size ≤ 2 ^ 40 ∧ d.params < 2 ^ 30) (h : Heap) :
    pcall L 31 [.agg [.list (S.datas.map encData) none, .list (S.vals.map encVal) none], .str front] h = some (.val (.list ((S.datas.map (mapOf front)).map encMap) none), h) := by
  have hloop := outer_l0 hL h53 S front hfr S.datas hl hd
  unfold outer_C at hloop
  simp only [Int.natCast_zero, ownAt_zero, tailAt_zero, List.map_nil] at hloop
  refine pcall_fn hL hf (by simp -implicitDefEqProofs only [isData_list_none, data_Maps]) ?_ h
  unfold fn31
  rcases own_cases 1 5 S.datas.length with ⟨h1, h2⟩ | ⟨h1, h2⟩ <;> simp -implicitDefEqProofs only [code_ops, code_seq, code_ret, ops_cons, ops_nil, aOp, opd, upd_at, initTm_at, kt_cons, stepVal, aLen, aLoad1, aField, acells_agg, endFn, aResults, aResult, tupled, code_loopF, gc_mk, gcIds_mk, newIds_nil, gcMap_at, posOf, ren, renC, renO_box, idsV, idsC, idsO_box, wipeR_list, isData_list_none, isData_list_full, isData_int, isData_str, isDataL_nil, Option.getD_some, List.map_cons, List.map_nil, List.flatMap_cons, List.flatMap_nil, List.length_cons, List.length_nil, List.length_map, List.nil_append, List.append_nil, List.getElem?_cons_zero, List.getElem?_cons_succ, List.take_succ_cons, List.take_nil, ↓reduceIte, Nat.le_refl, Nat.add_zero, Nat.zero_add, Nat.reduceEqDiff, data_Datas, data_Vals, outOf_val, hloop, h1, h2]

end Go.Abs
