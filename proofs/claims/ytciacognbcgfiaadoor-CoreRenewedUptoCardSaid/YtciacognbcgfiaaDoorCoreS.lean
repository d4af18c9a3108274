/-
  The list of a tree: the walk's end. Conditions: none.
-/
import Derived.Test.YtciacognbcgfiaaDoorCoreR
set_option linter.unusedVariables false
set_option linter.unusedSimpArgs false
set_option maxRecDepth 100000
set_option maxHeartbeats 4000000
namespace Go.Abs
section
variable {L : Lib} (hL : Plain L)
include hL
def mA0 (op n : Int) (binds : List Int) (outs : List CExpr) (ids : List Int) (m : Nat) (alts : List CAlt) (j : Nat) : St :=
  ⟨kt [2, 5, 45, 46, 47] [.ptr (some (1, 0)), .ptr (some (3, 0)), .list (alts.map encAlt) none, .int .i64 alts.length, .int .i64 j],
    [.box [.func 187 [] [.ptr (some (0, 0)), .ptr (some (1, 0))]], .box [.list (outs.map encExpr) (some (some 2))], .tail outs.length 5, .box [.int .i64 op, .int .i64 n, .list (binds.map encI) none, .list [] (some none), .list ((alts.take j).map encAlt) (ownAt 4 j)]] ++ tailAt 2 j⟩
def mA0' (op n : Int) (binds : List Int) (outs : List CExpr) (ids : List Int) (m : Nat) (alts : List CAlt) : St :=
  ⟨kt [2, 5] [.ptr (some (1, 0)), .ptr (some (3, 0))],
    [.box [.func 187 [] [.ptr (some (0, 0)), .ptr (some (1, 0))]], .box [.list (outs.map encExpr) (some (some 2))], .tail outs.length 5, .box [.int .i64 op, .int .i64 n, .list (binds.map encI) none, .list [] (some none), .list (alts.map encAlt) (ownAt 4 alts.length)]] ++ tailAt 2 alts.length⟩
theorem list_l1A0 (hP : CPrims L sortInts) (op n : Int) (binds : List Int) (outs : List CExpr) (ids : List Int) (m : Nat) (alts : List CAlt) (ha : alts.length < 2 ^ 30) (hab : ∀ a ∈ alts, a.binds.length < 2 ^ 30) :
    loopF L.pure (call L) 4 [2, 5, 45, 46, 47] [2, 5] 2 fn187_l1 (mA0 op n binds outs ids m alts 0) = some (.normal, mA0' op n binds outs ids m alts) := by
  have hp := hL.pure
  have hdO := data_Exprs outs
  have hdI := data_Ints ids
  refine loopF_count (mA0 op n binds outs ids m alts) alts.length ?_ ?_
  · intro j hj
    obtain ⟨h1, h2, h3⟩ := round_c encAlt alts ha j hj
    have htake : (alts.take (j + 1)).map encAlt = (alts.take j).map encAlt ++ [encAlt alts[j]] := by
      rw [List.take_succ_eq_append_getElem hj, List.map_append]; rfl
    have hlen : (alts.take j).length = j := by simp; omega
    have hjj : j + 1 ≤ 1073741824 := by omega
    have hc := hP.clone alts[j].binds
    have hb := hab alts[j] (List.getElem_mem hj)
    unfold mA0
    rw [htake]
    generalize alts[j] = a at *
    have hc := fun h => hc h hb
    generalize hks : alts.take j = ks at *
    have hall := all_Alts ks
    have hdA := data_Alts ks
    rcases Nat.eq_zero_or_pos j with hz | hz
    · have : ks = [] := List.length_eq_zero_iff.1 (by omega)
      subst this
      have o1 : ownAt 4 j = some none := by rw [hz]; rfl
      have o2 : tailAt 2 j = [] := by rw [hz]; rfl
      have o3 : j + 1 = 1 := by omega
      unfold fn187_l1
      simp -implicitDefEqProofs only [code_skip, code_ops, code_draw, code_seq, code_cond, code_block, ops_cons, ops_nil, aOp, opd, upd_at, upd_none, kt_cons, stepVal, stepHeap, aBin, aInt, aIndexList, isShift, aWanted, aLoad1, aStore, readAt, aField, fillA, known, leaf, acells_agg, acells_int, acells_list, cellsSet, gc_mk, isTrim_cons, gcIds_mk, newIds_nil, newIds_cons, gcMap_at, posOf, ren, renC, renO_box, renO_tail, idsV, idsC, idsO_box, idsO_tail, draw_eq, opsH_nil, opsH_cons, isLoud, aAppend, wipe_agg, wipe_list, wipeC_list, wipeC_int, isData_list_none, isData_list_full, isData_list_tail, isData_int, isData_agg, isData_func, isData_ptr, isDataL_nil, isDataL_cons, Option.map_some, Option.getD_some, List.map_cons, List.map_nil, List.flatMap_cons, List.flatMap_nil, List.length_cons, List.length_nil, List.cons_append, List.nil_append, List.append_nil, List.getElem?_cons_zero, List.getElem?_cons_succ, List.set_cons_zero, List.set_cons_succ, List.take_succ_cons, List.take_zero, List.drop_succ_cons, List.drop_zero, List.take_nil, List.drop_nil, List.all_cons, List.all_nil, List.not_mem_nil, ↓reduceIte, Bool.and_true, Bool.and_false, Bool.false_eq_true, and_true, not_false_eq_true, decide_true, decide_false, and_self, Nat.le_refl, Nat.add_zero, Nat.zero_add, Nat.reduceEqDiff, Nat.reduceAdd, Nat.reduceLT, Nat.reduceLeDiff, Int.toNat_natCast, Int.natCast_nonneg, List.cons_ne_nil, roundF_eq, maxLen_eq, checksP_nil, drawTo_if, kt_nil, Int.cast_ofNat_Int, onlyVal, ownAt_succ, tailAt_succ, encAlt_eq, data_Ints, data_Alts, h1, h2, h3, hc, hdO, hdI, o1, o2, o3, doCall_p L hp, hp]
    · have o1 := ownAt_pos (b := 4) hz
      have o2 := tailAt_pos (sz := 2) hz
      unfold fn187_l1
      simp -implicitDefEqProofs only [code_skip, code_ops, code_draw, code_seq, code_cond, code_block, ops_cons, ops_nil, aOp, opd, upd_at, upd_none, kt_cons, stepVal, stepHeap, aBin, aInt, aIndexList, isShift, aWanted, aLoad1, aStore, readAt, aField, fillA, known, leaf, acells_agg, acells_int, acells_list, cellsSet, gc_mk, isTrim_cons, gcIds_mk, newIds_nil, newIds_cons, gcMap_at, posOf, ren, renC, renO_box, renO_tail, idsV, idsC, idsO_box, idsO_tail, draw_eq, opsH_nil, opsH_cons, isLoud, aAppend, wipe_agg, wipe_list, wipeC_list, wipeC_int, isData_list_none, isData_list_full, isData_list_tail, isData_int, isData_agg, isData_func, isData_ptr, isDataL_nil, isDataL_cons, isDataL_append, Option.map_some, Option.getD_some, List.map_cons, List.map_nil, List.flatMap_cons, List.flatMap_nil, List.length_cons, List.length_nil, List.length_map, List.cons_append, List.nil_append, List.append_nil, List.getElem?_cons_zero, List.getElem?_cons_succ, List.set_cons_zero, List.set_cons_succ, List.take_succ_cons, List.take_zero, List.drop_succ_cons, List.drop_zero, List.take_nil, List.drop_nil, List.all_cons, List.all_nil, List.not_mem_nil, ↓reduceIte, Bool.and_true, Bool.and_false, Bool.false_eq_true, and_true, not_false_eq_true, decide_true, decide_false, and_self, Nat.le_refl, Nat.add_zero, Nat.zero_add, Nat.reduceEqDiff, Nat.reduceAdd, Nat.reduceLT, Nat.reduceLeDiff, Int.toNat_natCast, Int.natCast_nonneg, List.cons_ne_nil, roundF_eq, maxLen_eq, checksP_nil, drawTo_if, kt_nil, onlyVal, ownAt_succ, tailAt_succ, encAlt_eq, data_Ints, data_Alts, h1, h2, h3, hc, hdO, hdI, hall, hdA, hlen, hjj, o1, o2, doCall_p L hp, hp]
  · have h0 := append_c alts.length
    have hdA := data_Alts alts
    unfold mA0 mA0'
    rw [List.take_length]
    unfold fn187_l1
    rcases own_cases 4 2 alts.length with ⟨o1, o2⟩ | ⟨o1, o2⟩ <;> simp -implicitDefEqProofs only [code_ops, code_seq, code_cond, code_exit, ops_cons, ops_nil, aOp, opd, upd_at, kt_cons, stepVal, aBin, aInt, isShift, gcE, gc_mk, isTrim_cons, gcIds_mk, newIds_nil, newIds_cons, gcMap_at, posOf, ren, renC, renO_box, renO_tail, idsV, idsC, idsO_box, idsO_tail, isData_list_none, isData_list_full, isData_list_tail, isData_int, isData_func, isData_ptr, isDataL_nil, isDataL_cons, Option.getD_some, List.map_cons, List.map_nil, List.flatMap_cons, List.flatMap_nil, List.length_cons, List.length_nil, List.cons_append, List.nil_append, List.append_nil, List.getElem?_cons_zero, List.getElem?_cons_succ, List.take_succ_cons, List.take_zero, List.take_nil, List.not_mem_nil, ↓reduceIte, Bool.and_true, Bool.and_false, Bool.false_eq_true, and_true, not_false_eq_true, decide_false, and_self, Nat.le_refl, Nat.zero_add, Nat.reduceEqDiff, Nat.reduceAdd, Nat.reduceLT, Nat.reduceLeDiff, roundF_eq, kt_nil, data_Ints, h0, o1, o2, hdO, hdI, hdA]
def mA1 (op n : Int) (binds : List Int) (outs : List CExpr) (ids : List Int) (m : Nat) (alts : List CAlt) (j : Nat) : St :=
  ⟨kt [2, 5, 45, 46, 47] [.ptr (some (1, 0)), .ptr (some (3, 0)), .list (alts.map encAlt) none, .int .i64 alts.length, .int .i64 j],
    [.box [.func 187 [] [.ptr (some (0, 0)), .ptr (some (1, 0))]], .box [.list (outs.map encExpr) (some (some 2))], .tail outs.length 5, .box [.int .i64 op, .int .i64 n, .list (binds.map encI) none, .list (ids.map encI) (some (some 4)), .list ((alts.take j).map encAlt) (ownAt 5 j)], .tail m 1] ++ tailAt 2 j⟩
def mA1' (op n : Int) (binds : List Int) (outs : List CExpr) (ids : List Int) (m : Nat) (alts : List CAlt) : St :=
  ⟨kt [2, 5] [.ptr (some (1, 0)), .ptr (some (3, 0))],
    [.box [.func 187 [] [.ptr (some (0, 0)), .ptr (some (1, 0))]], .box [.list (outs.map encExpr) (some (some 2))], .tail outs.length 5, .box [.int .i64 op, .int .i64 n, .list (binds.map encI) none, .list (ids.map encI) (some (some 4)), .list (alts.map encAlt) (ownAt 5 alts.length)], .tail m 1] ++ tailAt 2 alts.length⟩
theorem list_l1A1 (hP : CPrims L sortInts) (op n : Int) (binds : List Int) (outs : List CExpr) (ids : List Int) (m : Nat) (alts : List CAlt) (ha : alts.length < 2 ^ 30) (hab : ∀ a ∈ alts, a.binds.length < 2 ^ 30) :
    loopF L.pure (call L) 5 [2, 5, 45, 46, 47] [2, 5] 2 fn187_l1 (mA1 op n binds outs ids m alts 0) = some (.normal, mA1' op n binds outs ids m alts) := by
  have hp := hL.pure
  have hdO := data_Exprs outs
  have hdI := data_Ints ids
  refine loopF_count (mA1 op n binds outs ids m alts) alts.length ?_ ?_
  · intro j hj
    obtain ⟨h1, h2, h3⟩ := round_c encAlt alts ha j hj
    have htake : (alts.take (j + 1)).map encAlt = (alts.take j).map encAlt ++ [encAlt alts[j]] := by
      rw [List.take_succ_eq_append_getElem hj, List.map_append]; rfl
    have hlen : (alts.take j).length = j := by simp; omega
    have hjj : j + 1 ≤ 1073741824 := by omega
    have hc := hP.clone alts[j].binds
    have hb := hab alts[j] (List.getElem_mem hj)
    unfold mA1
    rw [htake]
    generalize alts[j] = a at *
    have hc := fun h => hc h hb
    generalize hks : alts.take j = ks at *
    have hall := all_Alts ks
    have hdA := data_Alts ks
    rcases Nat.eq_zero_or_pos j with hz | hz
    · have : ks = [] := List.length_eq_zero_iff.1 (by omega)
      subst this
      have o1 : ownAt 5 j = some none := by rw [hz]; rfl
      have o2 : tailAt 2 j = [] := by rw [hz]; rfl
      have o3 : j + 1 = 1 := by omega
      unfold fn187_l1
      simp -implicitDefEqProofs only [code_skip, code_ops, code_draw, code_seq, code_cond, code_block, ops_cons, ops_nil, aOp, opd, upd_at, upd_none, kt_cons, stepVal, stepHeap, aBin, aInt, aIndexList, isShift, aWanted, aLoad1, aStore, readAt, aField, fillA, known, leaf, acells_agg, acells_int, acells_list, cellsSet, gc_mk, isTrim_cons, gcIds_mk, newIds_nil, newIds_cons, gcMap_at, posOf, ren, renC, renO_box, renO_tail, idsV, idsC, idsO_box, idsO_tail, draw_eq, opsH_nil, opsH_cons, isLoud, aAppend, wipe_agg, wipe_list, wipeC_list, wipeC_int, isData_list_none, isData_list_tail, isData_int, isData_agg, isData_func, isData_ptr, isDataL_nil, isDataL_cons, Option.map_some, Option.getD_some, List.map_cons, List.map_nil, List.flatMap_cons, List.flatMap_nil, List.length_cons, List.length_nil, List.cons_append, List.nil_append, List.append_nil, List.getElem?_cons_zero, List.getElem?_cons_succ, List.set_cons_zero, List.set_cons_succ, List.take_succ_cons, List.take_zero, List.drop_succ_cons, List.drop_zero, List.take_nil, List.drop_nil, List.all_cons, List.all_nil, List.not_mem_nil, ↓reduceIte, Bool.and_true, Bool.and_false, Bool.false_eq_true, and_true, not_false_eq_true, decide_true, decide_false, and_self, Nat.le_refl, Nat.add_zero, Nat.zero_add, Nat.reduceEqDiff, Nat.reduceAdd, Nat.reduceLT, Nat.reduceLeDiff, Int.toNat_natCast, Int.natCast_nonneg, List.cons_ne_nil, roundF_eq, maxLen_eq, checksP_nil, drawTo_if, kt_nil, Int.cast_ofNat_Int, onlyVal, ownAt_succ, tailAt_succ, encAlt_eq, data_Ints, data_Alts, h1, h2, h3, hc, hdO, hdI, o1, o2, o3, doCall_p L hp, hp]
    · have o1 := ownAt_pos (b := 5) hz
      have o2 := tailAt_pos (sz := 2) hz
      unfold fn187_l1
      simp -implicitDefEqProofs only [code_skip, code_ops, code_draw, code_seq, code_cond, code_block, ops_cons, ops_nil, aOp, opd, upd_at, upd_none, kt_cons, stepVal, stepHeap, aBin, aInt, aIndexList, isShift, aWanted, aLoad1, aStore, readAt, aField, fillA, known, leaf, acells_agg, acells_int, acells_list, cellsSet, gc_mk, isTrim_cons, gcIds_mk, newIds_nil, newIds_cons, gcMap_at, posOf, ren, renC, renO_box, renO_tail, idsV, idsC, idsO_box, idsO_tail, draw_eq, opsH_nil, opsH_cons, isLoud, aAppend, wipe_agg, wipe_list, wipeC_list, wipeC_int, isData_list_none, isData_list_tail, isData_int, isData_agg, isData_func, isData_ptr, isDataL_nil, isDataL_cons, isDataL_append, Option.map_some, Option.getD_some, List.map_cons, List.map_nil, List.flatMap_cons, List.flatMap_nil, List.length_cons, List.length_nil, List.length_map, List.cons_append, List.nil_append, List.append_nil, List.getElem?_cons_zero, List.getElem?_cons_succ, List.set_cons_zero, List.set_cons_succ, List.take_succ_cons, List.take_zero, List.drop_succ_cons, List.drop_zero, List.take_nil, List.drop_nil, List.all_cons, List.all_nil, List.not_mem_nil, ↓reduceIte, Bool.and_true, Bool.and_false, Bool.false_eq_true, and_true, not_false_eq_true, decide_true, decide_false, and_self, Nat.le_refl, Nat.add_zero, Nat.zero_add, Nat.reduceEqDiff, Nat.reduceAdd, Nat.reduceLT, Nat.reduceLeDiff, Int.toNat_natCast, Int.natCast_nonneg, List.cons_ne_nil, roundF_eq, maxLen_eq, checksP_nil, drawTo_if, kt_nil, onlyVal, ownAt_succ, tailAt_succ, encAlt_eq, data_Ints, data_Alts, h1, h2, h3, hc, hdO, hdI, hall, hdA, hlen, hjj, o1, o2, doCall_p L hp, hp]
  · have h0 := append_c alts.length
    have hdA := data_Alts alts
    unfold mA1 mA1'
    rw [List.take_length]
    unfold fn187_l1
    rcases own_cases 5 2 alts.length with ⟨o1, o2⟩ | ⟨o1, o2⟩ <;> simp -implicitDefEqProofs only [code_ops, code_seq, code_cond, code_exit, ops_cons, ops_nil, aOp, opd, upd_at, kt_cons, stepVal, aBin, aInt, isShift, gcE, gc_mk, isTrim_cons, gcIds_mk, newIds_nil, newIds_cons, gcMap_at, posOf, ren, renC, renO_box, renO_tail, idsV, idsC, idsO_box, idsO_tail, isData_list_none, isData_list_full, isData_list_tail, isData_int, isData_func, isData_ptr, isDataL_nil, isDataL_cons, Option.getD_some, List.map_cons, List.map_nil, List.flatMap_cons, List.flatMap_nil, List.length_cons, List.length_nil, List.cons_append, List.nil_append, List.append_nil, List.getElem?_cons_zero, List.getElem?_cons_succ, List.take_succ_cons, List.take_zero, List.take_nil, List.not_mem_nil, ↓reduceIte, Bool.and_true, Bool.and_false, Bool.false_eq_true, and_true, not_false_eq_true, decide_false, and_self, Nat.le_refl, Nat.zero_add, Nat.reduceEqDiff, Nat.reduceAdd, Nat.reduceLT, Nat.reduceLeDiff, roundF_eq, kt_nil, data_Ints, h0, o1, o2, hdO, hdI, hdA]
def mB0 (op n : Int) (binds : List Int) (outs : List CExpr) (ids : List Int) (m : Nat) (alts : List CAlt) (j : Nat) : St :=
  ⟨kt [2, 5, 45, 46, 47] [.ptr (some (1, 0)), .ptr (some (2, 0)), .list (alts.map encAlt) none, .int .i64 alts.length, .int .i64 j],
    [.box [.func 187 [] [.ptr (some (0, 0)), .ptr (some (1, 0))]], .box [.list [] (some none)], .box [.int .i64 op, .int .i64 n, .list (binds.map encI) none, .list [] (some none), .list ((alts.take j).map encAlt) (ownAt 3 j)]] ++ tailAt 2 j⟩
def mB0' (op n : Int) (binds : List Int) (outs : List CExpr) (ids : List Int) (m : Nat) (alts : List CAlt) : St :=
  ⟨kt [2, 5] [.ptr (some (1, 0)), .ptr (some (2, 0))],
    [.box [.func 187 [] [.ptr (some (0, 0)), .ptr (some (1, 0))]], .box [.list [] (some none)], .box [.int .i64 op, .int .i64 n, .list (binds.map encI) none, .list [] (some none), .list (alts.map encAlt) (ownAt 3 alts.length)]] ++ tailAt 2 alts.length⟩
theorem list_l1B0 (hP : CPrims L sortInts) (op n : Int) (binds : List Int) (outs : List CExpr) (ids : List Int) (m : Nat) (alts : List CAlt) (ha : alts.length < 2 ^ 30) (hab : ∀ a ∈ alts, a.binds.length < 2 ^ 30) :
    loopF L.pure (call L) 3 [2, 5, 45, 46, 47] [2, 5] 2 fn187_l1 (mB0 op n binds outs ids m alts 0) = some (.normal, mB0' op n binds outs ids m alts) := by
  have hp := hL.pure
  have hdO := data_Exprs outs
  have hdI := data_Ints ids
  refine loopF_count (mB0 op n binds outs ids m alts) alts.length ?_ ?_
  · intro j hj
    obtain ⟨h1, h2, h3⟩ := round_c encAlt alts ha j hj
    have htake : (alts.take (j + 1)).map encAlt = (alts.take j).map encAlt ++ [encAlt alts[j]] := by
      rw [List.take_succ_eq_append_getElem hj, List.map_append]; rfl
    have hlen : (alts.take j).length = j := by simp; omega
    have hjj : j + 1 ≤ 1073741824 := by omega
    have hc := hP.clone alts[j].binds
    have hb := hab alts[j] (List.getElem_mem hj)
    unfold mB0
    rw [htake]
    generalize alts[j] = a at *
    have hc := fun h => hc h hb
    generalize hks : alts.take j = ks at *
    have hall := all_Alts ks
    have hdA := data_Alts ks
    rcases Nat.eq_zero_or_pos j with hz | hz
    · have : ks = [] := List.length_eq_zero_iff.1 (by omega)
      subst this
      have o1 : ownAt 3 j = some none := by rw [hz]; rfl
      have o2 : tailAt 2 j = [] := by rw [hz]; rfl
      have o3 : j + 1 = 1 := by omega
      unfold fn187_l1
      simp -implicitDefEqProofs only [code_skip, code_ops, code_draw, code_seq, code_cond, code_block, ops_cons, ops_nil, aOp, opd, upd_at, upd_none, kt_cons, stepVal, stepHeap, aBin, aInt, aIndexList, isShift, aWanted, aLoad1, aStore, readAt, aField, fillA, known, leaf, acells_agg, acells_int, acells_list, cellsSet, gc_mk, isTrim_cons, gcIds_mk, newIds_nil, newIds_cons, gcMap_at, posOf, ren, renC, renO_box, renO_tail, idsV, idsC, idsO_box, draw_eq, opsH_nil, opsH_cons, isLoud, aAppend, wipe_agg, wipe_list, wipeC_list, wipeC_int, isData_list_none, isData_list_full, isData_list_tail, isData_int, isData_agg, isData_func, isData_ptr, isDataL_nil, isDataL_cons, Option.map_some, Option.getD_some, List.map_cons, List.map_nil, List.flatMap_cons, List.flatMap_nil, List.length_cons, List.length_nil, List.cons_append, List.nil_append, List.append_nil, List.getElem?_cons_zero, List.getElem?_cons_succ, List.set_cons_zero, List.set_cons_succ, List.take_succ_cons, List.take_zero, List.drop_succ_cons, List.drop_zero, List.take_nil, List.drop_nil, List.all_cons, List.all_nil, List.not_mem_nil, ↓reduceIte, Bool.and_true, Bool.and_false, Bool.false_eq_true, and_true, not_false_eq_true, decide_true, decide_false, and_self, Nat.le_refl, Nat.add_zero, Nat.zero_add, Nat.reduceEqDiff, Nat.reduceAdd, Nat.reduceLT, Nat.reduceLeDiff, Int.toNat_natCast, Int.natCast_nonneg, List.cons_ne_nil, roundF_eq, maxLen_eq, checksP_nil, drawTo_if, kt_nil, Int.cast_ofNat_Int, onlyVal, ownAt_succ, tailAt_succ, encAlt_eq, data_Ints, data_Alts, h1, h2, h3, hc, hdO, hdI, o1, o2, o3, doCall_p L hp, hp]
    · have o1 := ownAt_pos (b := 3) hz
      have o2 := tailAt_pos (sz := 2) hz
      unfold fn187_l1
      simp -implicitDefEqProofs only [code_skip, code_ops, code_draw, code_seq, code_cond, code_block, ops_cons, ops_nil, aOp, opd, upd_at, upd_none, kt_cons, stepVal, stepHeap, aBin, aInt, aIndexList, isShift, aWanted, aLoad1, aStore, readAt, aField, fillA, known, leaf, acells_agg, acells_int, acells_list, cellsSet, gc_mk, isTrim_cons, gcIds_mk, newIds_nil, newIds_cons, gcMap_at, posOf, ren, renC, renO_box, renO_tail, idsV, idsC, idsO_box, draw_eq, opsH_nil, opsH_cons, isLoud, aAppend, wipe_agg, wipe_list, wipeC_list, wipeC_int, isData_list_none, isData_list_full, isData_list_tail, isData_int, isData_agg, isData_func, isData_ptr, isDataL_nil, isDataL_cons, isDataL_append, Option.map_some, Option.getD_some, List.map_cons, List.map_nil, List.flatMap_cons, List.flatMap_nil, List.length_cons, List.length_nil, List.length_map, List.cons_append, List.nil_append, List.append_nil, List.getElem?_cons_zero, List.getElem?_cons_succ, List.set_cons_zero, List.set_cons_succ, List.take_succ_cons, List.take_zero, List.drop_succ_cons, List.drop_zero, List.take_nil, List.drop_nil, List.all_cons, List.all_nil, List.not_mem_nil, ↓reduceIte, Bool.and_true, Bool.and_false, Bool.false_eq_true, and_true, not_false_eq_true, decide_true, decide_false, and_self, Nat.le_refl, Nat.add_zero, Nat.zero_add, Nat.reduceEqDiff, Nat.reduceAdd, Nat.reduceLT, Nat.reduceLeDiff, Int.toNat_natCast, Int.natCast_nonneg, List.cons_ne_nil, roundF_eq, maxLen_eq, checksP_nil, drawTo_if, kt_nil, onlyVal, ownAt_succ, tailAt_succ, encAlt_eq, data_Ints, data_Alts, h1, h2, h3, hc, hdO, hdI, hall, hdA, hlen, hjj, o1, o2, doCall_p L hp, hp]
  · have h0 := append_c alts.length
    have hdA := data_Alts alts
    unfold mB0 mB0'
    rw [List.take_length]
    unfold fn187_l1
    rcases own_cases 3 2 alts.length with ⟨o1, o2⟩ | ⟨o1, o2⟩ <;> simp -implicitDefEqProofs only [code_ops, code_seq, code_cond, code_exit, ops_cons, ops_nil, aOp, opd, upd_at, kt_cons, stepVal, aBin, aInt, isShift, gcE, gc_mk, isTrim_cons, gcIds_mk, newIds_nil, newIds_cons, gcMap_at, posOf, ren, renC, renO_box, renO_tail, idsV, idsC, idsO_box, isData_list_none, isData_list_full, isData_list_tail, isData_int, isData_func, isData_ptr, isDataL_nil, isDataL_cons, Option.getD_some, List.map_cons, List.map_nil, List.flatMap_cons, List.flatMap_nil, List.length_cons, List.length_nil, List.cons_append, List.nil_append, List.append_nil, List.getElem?_cons_zero, List.getElem?_cons_succ, List.take_succ_cons, List.take_zero, List.take_nil, List.not_mem_nil, ↓reduceIte, Bool.and_true, Bool.and_false, Bool.false_eq_true, and_true, not_false_eq_true, decide_false, and_self, Nat.le_refl, Nat.zero_add, Nat.reduceEqDiff, Nat.reduceAdd, Nat.reduceLT, Nat.reduceLeDiff, roundF_eq, kt_nil, data_Ints, h0, o1, o2, hdO, hdI, hdA]
def mB1 (op n : Int) (binds : List Int) (outs : List CExpr) (ids : List Int) (m : Nat) (alts : List CAlt) (j : Nat) : St :=
  ⟨kt [2, 5, 45, 46, 47] [.ptr (some (1, 0)), .ptr (some (2, 0)), .list (alts.map encAlt) none, .int .i64 alts.length, .int .i64 j],
    [.box [.func 187 [] [.ptr (some (0, 0)), .ptr (some (1, 0))]], .box [.list (outs.map encExpr) (some (some 3))], .box [.int .i64 op, .int .i64 n, .list (binds.map encI) none, .list (ids.map encI) (some (some 4)), .list ((alts.take j).map encAlt) (ownAt 5 j)], .tail outs.length 5, .tail m 1] ++ tailAt 2 j⟩
def mB1' (op n : Int) (binds : List Int) (outs : List CExpr) (ids : List Int) (m : Nat) (alts : List CAlt) : St :=
  ⟨kt [2, 5] [.ptr (some (1, 0)), .ptr (some (2, 0))],
    [.box [.func 187 [] [.ptr (some (0, 0)), .ptr (some (1, 0))]], .box [.list (outs.map encExpr) (some (some 3))], .box [.int .i64 op, .int .i64 n, .list (binds.map encI) none, .list (ids.map encI) (some (some 4)), .list (alts.map encAlt) (ownAt 5 alts.length)], .tail outs.length 5, .tail m 1] ++ tailAt 2 alts.length⟩
theorem list_l1B1 (hP : CPrims L sortInts) (op n : Int) (binds : List Int) (outs : List CExpr) (ids : List Int) (m : Nat) (alts : List CAlt) (ha : alts.length < 2 ^ 30) (hab : ∀ a ∈ alts, a.binds.length < 2 ^ 30) :
    loopF L.pure (call L) 5 [2, 5, 45, 46, 47] [2, 5] 2 fn187_l1 (mB1 op n binds outs ids m alts 0) = some (.normal, mB1' op n binds outs ids m alts) := by
  have hp := hL.pure
  have hdO := data_Exprs outs
  have hdI := data_Ints ids
  refine loopF_count (mB1 op n binds outs ids m alts) alts.length ?_ ?_
  · intro j hj
    obtain ⟨h1, h2, h3⟩ := round_c encAlt alts ha j hj
    have htake : (alts.take (j + 1)).map encAlt = (alts.take j).map encAlt ++ [encAlt alts[j]] := by
      rw [List.take_succ_eq_append_getElem hj, List.map_append]; rfl
    have hlen : (alts.take j).length = j := by simp; omega
    have hjj : j + 1 ≤ 1073741824 := by omega
    have hc := hP.clone alts[j].binds
    have hb := hab alts[j] (List.getElem_mem hj)
    unfold mB1
    rw [htake]
    generalize alts[j] = a at *
    have hc := fun h => hc h hb
    generalize hks : alts.take j = ks at *
    have hall := all_Alts ks
    have hdA := data_Alts ks
    rcases Nat.eq_zero_or_pos j with hz | hz
    · have : ks = [] := List.length_eq_zero_iff.1 (by omega)
      subst this
      have o1 : ownAt 5 j = some none := by rw [hz]; rfl
      have o2 : tailAt 2 j = [] := by rw [hz]; rfl
      have o3 : j + 1 = 1 := by omega
      unfold fn187_l1
      simp -implicitDefEqProofs only [code_skip, code_ops, code_draw, code_seq, code_cond, code_block, ops_cons, ops_nil, aOp, opd, upd_at, upd_none, kt_cons, stepVal, stepHeap, aBin, aInt, aIndexList, isShift, aWanted, aLoad1, aStore, readAt, aField, fillA, known, leaf, acells_agg, acells_int, acells_list, cellsSet, gc_mk, isTrim_cons, gcIds_mk, newIds_nil, newIds_cons, gcMap_at, posOf, ren, renC, renO_box, renO_tail, idsV, idsC, idsO_box, idsO_tail, draw_eq, opsH_nil, opsH_cons, isLoud, aAppend, wipe_agg, wipe_list, wipeC_list, wipeC_int, isData_list_none, isData_list_tail, isData_int, isData_agg, isData_func, isData_ptr, isDataL_nil, isDataL_cons, Option.map_some, Option.getD_some, List.map_cons, List.map_nil, List.flatMap_cons, List.flatMap_nil, List.length_cons, List.length_nil, List.cons_append, List.nil_append, List.append_nil, List.getElem?_cons_zero, List.getElem?_cons_succ, List.set_cons_zero, List.set_cons_succ, List.take_succ_cons, List.take_zero, List.drop_succ_cons, List.drop_zero, List.take_nil, List.drop_nil, List.all_cons, List.all_nil, List.not_mem_nil, ↓reduceIte, Bool.and_true, Bool.and_false, Bool.false_eq_true, and_true, not_false_eq_true, decide_true, decide_false, and_self, Nat.le_refl, Nat.add_zero, Nat.zero_add, Nat.reduceEqDiff, Nat.reduceAdd, Nat.reduceLT, Nat.reduceLeDiff, Int.toNat_natCast, Int.natCast_nonneg, List.cons_ne_nil, roundF_eq, maxLen_eq, checksP_nil, drawTo_if, kt_nil, Int.cast_ofNat_Int, onlyVal, ownAt_succ, tailAt_succ, encAlt_eq, data_Ints, data_Alts, h1, h2, h3, hc, hdO, hdI, o1, o2, o3, doCall_p L hp, hp]
    · have o1 := ownAt_pos (b := 5) hz
      have o2 := tailAt_pos (sz := 2) hz
      unfold fn187_l1
      simp -implicitDefEqProofs only [code_skip, code_ops, code_draw, code_seq, code_cond, code_block, ops_cons, ops_nil, aOp, opd, upd_at, upd_none, kt_cons, stepVal, stepHeap, aBin, aInt, aIndexList, isShift, aWanted, aLoad1, aStore, readAt, aField, fillA, known, leaf, acells_agg, acells_int, acells_list, cellsSet, gc_mk, isTrim_cons, gcIds_mk, newIds_nil, newIds_cons, gcMap_at, posOf, ren, renC, renO_box, renO_tail, idsV, idsC, idsO_box, idsO_tail, draw_eq, opsH_nil, opsH_cons, isLoud, aAppend, wipe_agg, wipe_list, wipeC_list, wipeC_int, isData_list_none, isData_list_tail, isData_int, isData_agg, isData_func, isData_ptr, isDataL_nil, isDataL_cons, isDataL_append, Option.map_some, Option.getD_some, List.map_cons, List.map_nil, List.flatMap_cons, List.flatMap_nil, List.length_cons, List.length_nil, List.length_map, List.cons_append, List.nil_append, List.append_nil, List.getElem?_cons_zero, List.getElem?_cons_succ, List.set_cons_zero, List.set_cons_succ, List.take_succ_cons, List.take_zero, List.drop_succ_cons, List.drop_zero, List.take_nil, List.drop_nil, List.all_cons, List.all_nil, List.not_mem_nil, ↓reduceIte, Bool.and_true, Bool.and_false, Bool.false_eq_true, and_true, not_false_eq_true, decide_true, decide_false, and_self, Nat.le_refl, Nat.add_zero, Nat.zero_add, Nat.reduceEqDiff, Nat.reduceAdd, Nat.reduceLT, Nat.reduceLeDiff, Int.toNat_natCast, Int.natCast_nonneg, List.cons_ne_nil, roundF_eq, maxLen_eq, checksP_nil, drawTo_if, kt_nil, onlyVal, ownAt_succ, tailAt_succ, encAlt_eq, data_Ints, data_Alts, h1, h2, h3, hc, hdO, hdI, hall, hdA, hlen, hjj, o1, o2, doCall_p L hp, hp]
  · have h0 := append_c alts.length
    have hdA := data_Alts alts
    unfold mB1 mB1'
    rw [List.take_length]
    unfold fn187_l1
    rcases own_cases 5 2 alts.length with ⟨o1, o2⟩ | ⟨o1, o2⟩ <;> simp -implicitDefEqProofs only [code_ops, code_seq, code_cond, code_exit, ops_cons, ops_nil, aOp, opd, upd_at, kt_cons, stepVal, aBin, aInt, isShift, gcE, gc_mk, isTrim_cons, gcIds_mk, newIds_nil, newIds_cons, gcMap_at, posOf, ren, renC, renO_box, renO_tail, idsV, idsC, idsO_box, idsO_tail, isData_list_none, isData_list_full, isData_list_tail, isData_int, isData_func, isData_ptr, isDataL_nil, isDataL_cons, Option.getD_some, List.map_cons, List.map_nil, List.flatMap_cons, List.flatMap_nil, List.length_cons, List.length_nil, List.cons_append, List.nil_append, List.append_nil, List.getElem?_cons_zero, List.getElem?_cons_succ, List.take_succ_cons, List.take_zero, List.take_nil, List.not_mem_nil, ↓reduceIte, Bool.and_true, Bool.and_false, Bool.false_eq_true, and_true, not_false_eq_true, decide_false, and_self, Nat.le_refl, Nat.zero_add, Nat.reduceEqDiff, Nat.reduceAdd, Nat.reduceLT, Nat.reduceLeDiff, roundF_eq, kt_nil, data_Ints, h0, o1, o2, hdO, hdI, hdA]
theorem walk_node (hP : CPrims L sortInts) (h187 : L.fns 187 = some fn187) (op n : Int) (binds : List Int) (kids : List CTree) (alts : List CAlt) (hb : binds.length < 2 ^ 30) (hkl : kids.length < 2 ^ 30) (ha : alts.length < 2 ^ 30) (hab : ∀ a ∈ alts, a.binds.length < 2 ^ 30)
    (ih : ∀ k ∈ kids, WalkOk L k) : WalkOk L (.mk op n binds kids alts) := by
  have hp := hL.pure
  intro outs hsz
  rw [tsize] at hsz
  have hs : L.summ 187 = none := hL.summ 187 (by rw [h187]; exact fun hx => by cases hx)
  refine call_of hs h187 ?_
  have hT : (outs ++ listTs kids outs.length).length = outs.length + tsizes kids := by rw [List.length_append, list_lens]
  have hres : outs.length + tsize (.mk op n binds kids alts) - 1 = (outs ++ listTs kids outs.length).length := by rw [tsize, hT]; omega
  rw [hres, listT, ← List.append_assoc]
  have hclone := fun h => hP.clone binds h hb
  have hdT := data_Trees kids
  have hdA := data_Alts alts
  have hdI := data_Ints (rootsTs kids outs.length)
  have hrl := rootsTs_len kids outs.length
  rw [encTree_eq]
  have hpos2 : ∀ x : CExpr, 0 < ((outs ++ listTs kids outs.length) ++ [x]).length := fun x => by rw [List.length_append]; simp
  rw [lh_pos (hpos2 _)]
  have hlt : (outs ++ listTs kids outs.length).length + 1 ≤ 1073741824 := by rw [hT]; omega
  have hw : IntKind.i64.wrap ((((outs ++ listTs kids outs.length).length + 1 : Nat) : Int) - 1) = (((outs ++ listTs kids outs.length).length : Nat) : Int) := by rw [wrap64 (by omega) (by omega)]; omega
  have hdO0 := data_Exprs outs
  rcases Nat.eq_zero_or_pos outs.length with hz | hz
  · have : outs = [] := List.length_eq_zero_iff.1 hz
    subst this
    have hl0 := list_l0B hL op n binds kids alts (by omega) hkl ih
    unfold lB lB' at hl0
    have e4 : hB op n binds [] [] 0 = [.box [.func 187 [] [.ptr (some (0, 0)), .ptr (some (1, 0))]], .box [.list [] (some none)], .box [.int .i64 op, .int .i64 n, .list (binds.map encI) none, .list [] (some none), .list [] (some none)]] := rfl
    rw [e4] at hl0
    simp only [Int.natCast_zero] at hl0
    rw [lh_nil]
    rw [List.nil_append, List.length_nil] at *
    by_cases hm : kids.length = 0
    · have : kids = [] := List.length_eq_zero_iff.1 hm
      subst this
      have e5 : listTs [] 0 = [] := by rw [listTs]
      have e6 : rootsTs [] 0 = [] := rfl
      have hw1 : IntKind.i64.wrap 0 = 0 := rfl
      simp only [e5, e6] at hl0 hw hlt ⊢
      have e7 : hB op n binds [] [] ([] : List CTree).length = [.box [.func 187 [] [.ptr (some (0, 0)), .ptr (some (1, 0))]], .box [.list [] (some none)], .box [.int .i64 op, .int .i64 n, .list (binds.map encI) none, .list [] (some none), .list [] (some none)]] := rfl
      rw [e7] at hl0
      simp only [List.length_nil, Int.natCast_zero, List.map_nil] at hl0
      have hl1 := list_l1B0 hL hP op n binds [] [] 0 alts ha hab
      unfold mB0 mB0' at hl1
      simp only [List.take_zero, List.map_nil, ownAt_zero, tailAt_zero, List.append_nil, Int.natCast_zero] at hl1
      rcases own_cases 3 2 alts.length with ⟨o1, o2⟩ | ⟨o1, o2⟩ <;> rw [o1, o2] at hl1 <;> unfold fn187 <;>
        simp -implicitDefEqProofs only [code_ops, code_draw, code_seq, code_ret, ops_cons, ops_nil, aOp, opd, upd_at, upd_none, initTm_at, kt_cons, stepVal, stepHeap, aBin, aLen, aInt, isShift, aWanted, aLoad1, aStore, readAt, aField, fillA, known, leaf, acells_agg, acells_int, acells_list, cellsSet, endFn, aResults, aResult, tupled, code_loopF, gcE, gc_mk, isTrim_cons, gcIds_mk, newIds_nil, newIds_cons, gcMap_at, posOf, ren, renC, renO_box, renO_tail, idsV, idsC, idsO_box, draw_eq, opsH_nil, opsH_cons, isLoud, aAppend, wipe_agg, wipe_list, wipeC_list, wipeC_int, isData_list_none, isData_list_full, isData_list_tail, isData_int, isData_agg, isData_func, isData_vptr, isData_ptr, isDataL_nil, isDataL_cons, Option.map_some, Option.getD_some, List.map_cons, List.map_nil, List.flatMap_cons, List.flatMap_nil, List.length_cons, List.length_nil, List.length_map, List.cons_append, List.nil_append, List.append_nil, List.getElem?_cons_zero, List.getElem?_cons_succ, List.set_cons_zero, List.set_cons_succ, List.take_succ_cons, List.take_zero, List.drop_succ_cons, List.drop_zero, List.take_nil, List.drop_nil, List.all_cons, List.all_nil, List.mem_cons, List.not_mem_nil, ↓reduceIte, Bool.and_true, Bool.and_false, Bool.false_eq_true, and_true, or_false, not_false_eq_true, decide_true, decide_false, and_self, Nat.le_refl, reduceCtorEq, Nat.add_zero, Nat.zero_add, Nat.reduceEqDiff, Nat.reduceAdd, Nat.reduceSub, Nat.reduceLT, Nat.reduceLeDiff, List.cons_ne_nil, maxLen_eq, checksP_cons, checksP_nil, checkP_eq, drawTo_if, forall_const, implies_true, kt_nil, Int.cast_ofNat_Int, onlyVal, code_frame_seq, encExpr_eq, data_Ints, hclone, hl0, hl1, hdA, hw, hw1, Int.natCast_zero, Int.natCast_one, Int.reduceSub, doCall_p L hp, hp]
    · have e7 : hB op n binds (listTs kids 0) (rootsTs kids 0) kids.length = [.box [.func 187 [] [.ptr (some (0, 0)), .ptr (some (1, 0))]], .box [.list ((listTs kids 0).map encExpr) (some (some 3))], .box [.int .i64 op, .int .i64 n, .list (binds.map encI) none, .list ((rootsTs kids 0).map encI) (some (some 4)), .list [] (some none)], .tail (listTs kids 0).length 5, .tail kids.length 1] := if_neg hm
      rw [e7] at hl0
      have hl1 := list_l1B1 hL hP op n binds (listTs kids 0) (rootsTs kids 0) kids.length alts ha hab
      unfold mB1 mB1' at hl1
      simp only [List.take_zero, List.map_nil, ownAt_zero, tailAt_zero, List.append_nil, Int.natCast_zero] at hl1
      generalize listTs kids 0 = ou at *
      have hdO := data_Exprs ou
      have hallO := all_Exprs ou
      generalize rootsTs kids 0 = ids at *
      rcases own_cases 5 2 alts.length with ⟨o1, o2⟩ | ⟨o1, o2⟩ <;> rw [o1, o2] at hl1 <;> unfold fn187 <;>
        simp -implicitDefEqProofs only [code_ops, code_draw, code_seq, code_ret, ops_cons, ops_nil, aOp, opd, upd_at, upd_none, initTm_at, kt_cons, stepVal, stepHeap, aBin, aLen, aInt, isShift, aWanted, aLoad1, aStore, readAt, aField, fillA, known, leaf, acells_agg, acells_int, acells_list, cellsSet, endFn, aResults, aResult, tupled, code_loopF, gcE, gc_mk, isTrim_cons, gcIds_mk, newIds_nil, newIds_cons, gcMap_at, posOf, ren, renC, renO_box, renO_tail, idsV, idsC, idsO_box, idsO_tail, draw_eq, opsH_nil, opsH_cons, isLoud, aAppend, wipe_agg, wipe_list, wipeC_list, wipeC_int, isData_list_none, isData_list_full, isData_list_tail, isData_int, isData_agg, isData_func, isData_vptr, isData_ptr, isDataL_nil, isDataL_cons, isDataL_append, Option.map_some, Option.getD_some, List.map_cons, List.map_nil, List.flatMap_cons, List.flatMap_nil, List.length_cons, List.length_nil, List.length_append, List.length_map, List.cons_append, List.nil_append, List.append_nil, List.getElem?_cons_zero, List.getElem?_cons_succ, List.set_cons_zero, List.set_cons_succ, List.take_succ_cons, List.take_zero, List.drop_succ_cons, List.drop_zero, List.take_nil, List.drop_nil, List.all_cons, List.all_nil, List.mem_cons, List.not_mem_nil, ↓reduceIte, Bool.and_true, Bool.and_false, Bool.false_eq_true, and_true, or_false, not_false_eq_true, decide_true, decide_false, and_self, Nat.le_refl, reduceCtorEq, Nat.add_zero, Nat.zero_add, Nat.reduceEqDiff, Nat.reduceAdd, Nat.reduceSub, Nat.reduceLT, Nat.reduceLeDiff, List.cons_ne_nil, maxLen_eq, checksP_cons, checksP_nil, checkP_eq, drawTo_if, forall_const, implies_true, List.map_append, kt_nil, onlyVal, code_frame_seq, encExpr_eq, data_Ints, hclone, hl0, hl1, hdA, hdT, hdI, hdO, hallO, hlt, hw, doCall_p L hp, hp]
  · have hl0 := list_l0A hL op n binds kids alts outs hz (by omega) hkl ih
    unfold lA lA' at hl0
    simp only [List.map_nil, ownAt_zero, tailAt_zero, List.append_nil, Int.natCast_zero] at hl0
    rw [lh_pos hz]
    rcases own_cases 4 1 kids.length with ⟨k1, k2⟩ | ⟨k1, k2⟩
    · have hm : kids.length = 0 := by
        cases hq : kids.length with
        | zero => rfl
        | succ q => rw [hq] at k1; cases k1
      have hids : rootsTs kids outs.length = [] := List.length_eq_zero_iff.1 (by omega)
      rw [k1, k2, hids] at hl0
      rw [hids]
      have hl1 := list_l1A0 hL hP op n binds (outs ++ listTs kids outs.length) [] 0 alts ha hab
      unfold mA0 mA0' at hl1
      simp only [List.take_zero, List.map_nil, ownAt_zero, tailAt_zero, List.append_nil, Int.natCast_zero] at hl0 hl1
      generalize outs ++ listTs kids outs.length = ou at *
      have hdO := data_Exprs ou
      have hallO := all_Exprs ou
      rcases own_cases 4 2 alts.length with ⟨o1, o2⟩ | ⟨o1, o2⟩ <;> rw [o1, o2] at hl1 <;> unfold fn187 <;>
        simp -implicitDefEqProofs only [code_ops, code_draw, code_seq, code_ret, ops_cons, ops_nil, aOp, opd, upd_at, upd_none, initTm_at, kt_cons, stepVal, stepHeap, aBin, aLen, aInt, isShift, aWanted, aLoad1, aStore, readAt, aField, fillA, known, leaf, acells_agg, acells_int, acells_list, cellsSet, endFn, aResults, aResult, tupled, code_loopF, gcE, gc_mk, isTrim_cons, gcIds_mk, newIds_nil, newIds_cons, gcMap_at, posOf, ren, renC, renO_box, renO_tail, idsV, idsC, idsO_box, idsO_tail, draw_eq, opsH_nil, opsH_cons, isLoud, aAppend, wipe_agg, wipe_list, wipeC_list, wipeC_int, isData_list_none, isData_list_full, isData_list_tail, isData_int, isData_agg, isData_func, isData_vptr, isData_ptr, isDataL_nil, isDataL_cons, isDataL_append, Option.map_some, Option.getD_some, List.map_cons, List.map_nil, List.flatMap_cons, List.flatMap_nil, List.length_cons, List.length_nil, List.length_append, List.length_map, List.cons_append, List.nil_append, List.append_nil, List.getElem?_cons_zero, List.getElem?_cons_succ, List.set_cons_zero, List.set_cons_succ, List.take_succ_cons, List.take_zero, List.drop_succ_cons, List.drop_zero, List.take_nil, List.drop_nil, List.all_cons, List.all_nil, List.mem_cons, List.not_mem_nil, ↓reduceIte, Bool.and_true, Bool.and_false, Bool.false_eq_true, and_true, or_false, not_false_eq_true, decide_true, decide_false, and_self, Nat.le_refl, reduceCtorEq, Nat.add_zero, Nat.zero_add, Nat.reduceEqDiff, Nat.reduceAdd, Nat.reduceSub, Nat.reduceLT, Nat.reduceLeDiff, List.cons_ne_nil, maxLen_eq, checksP_cons, checksP_nil, checkP_eq, drawTo_if, forall_const, implies_true, List.map_append, kt_nil, onlyVal, code_frame_seq, encExpr_eq, data_Ints, hclone, hl0, hl1, hdA, hdT, hdO0, hdO, hallO, hlt, hw, doCall_p L hp, hp]
    · rw [k1, k2] at hl0
      have hl1 := list_l1A1 hL hP op n binds (outs ++ listTs kids outs.length) (rootsTs kids outs.length) kids.length alts ha hab
      unfold mA1 mA1' at hl1
      simp only [List.take_zero, List.map_nil, ownAt_zero, tailAt_zero, List.append_nil, Int.natCast_zero] at hl1
      generalize outs ++ listTs kids outs.length = ou at *
      have hdO := data_Exprs ou
      have hallO := all_Exprs ou
      generalize rootsTs kids outs.length = ids at *
      rcases own_cases 5 2 alts.length with ⟨o1, o2⟩ | ⟨o1, o2⟩ <;> rw [o1, o2] at hl1 <;> unfold fn187 <;>
        simp -implicitDefEqProofs only [code_ops, code_draw, code_seq, code_ret, ops_cons, ops_nil, aOp, opd, upd_at, upd_none, initTm_at, kt_cons, stepVal, stepHeap, aBin, aLen, aInt, isShift, aWanted, aLoad1, aStore, readAt, aField, fillA, known, leaf, acells_agg, acells_int, acells_list, cellsSet, endFn, aResults, aResult, tupled, code_loopF, gcE, gc_mk, isTrim_cons, gcIds_mk, newIds_nil, newIds_cons, gcMap_at, posOf, ren, renC, renO_box, renO_tail, idsV, idsC, idsO_box, idsO_tail, draw_eq, opsH_nil, opsH_cons, isLoud, aAppend, wipe_agg, wipe_list, wipeC_list, wipeC_int, isData_list_none, isData_list_full, isData_list_tail, isData_int, isData_agg, isData_func, isData_vptr, isData_ptr, isDataL_nil, isDataL_cons, isDataL_append, Option.map_some, Option.getD_some, List.map_cons, List.map_nil, List.flatMap_cons, List.flatMap_nil, List.length_cons, List.length_nil, List.length_append, List.length_map, List.cons_append, List.nil_append, List.append_nil, List.getElem?_cons_zero, List.getElem?_cons_succ, List.set_cons_zero, List.set_cons_succ, List.take_succ_cons, List.take_zero, List.drop_succ_cons, List.drop_zero, List.take_nil, List.drop_nil, List.all_cons, List.all_nil, List.mem_cons, List.not_mem_nil, ↓reduceIte, Bool.and_true, Bool.and_false, Bool.false_eq_true, and_true, or_false, not_false_eq_true, decide_true, decide_false, and_self, Nat.le_refl, reduceCtorEq, Nat.add_zero, Nat.zero_add, Nat.reduceEqDiff, Nat.reduceAdd, Nat.reduceSub, Nat.reduceLT, Nat.reduceLeDiff, List.cons_ne_nil, maxLen_eq, checksP_cons, checksP_nil, checkP_eq, drawTo_if, forall_const, implies_true, List.map_append, kt_nil, onlyVal, code_frame_seq, encExpr_eq, data_Ints, hclone, hl0, hl1, hdA, hdT, hdI, hdO0, hdO, hallO, hlt, hw, doCall_p L hp, hp]
theorem walk_ok (hP : CPrims L sortInts) (h187 : L.fns 187 = some fn187) (t : CTree) (hf : TFit t) : WalkOk L t := by
  induction t using CTree.ind with
  | h op n binds kids alts ih =>
    cases hf with
    | mk _ _ _ _ _ hb hk ha h =>
      rw [List.length_append] at hb
      exact walk_node hL hP h187 op n binds kids alts (by omega) hk ha (fun a hm => by have := flat_len alts hm; omega) fun k hkm => ih k hkm (h k hkm)
theorem list_ok (hP : CPrims L sortInts) (h187 : L.fns 187 = some fn187) (h159 : L.fns 159 = some fn159) (t : CTree) (hf : TFit t) (hsz : tsize t < 2 ^ 30) (h : Heap) :
    pcall L 159 [encTree t] h = some (.val (.list ((listOf t).map encExpr) none), h) := by
  have hp := hL.pure
  have hw := walk_ok hL hP h187 t hf [] (by simpa using hsz)
  refine pcall_fn hL h159 (by rw [isData_list_none]; exact data_Exprs _) ?_ h
  have hpos : 0 < ([] ++ listT t ([] : List CExpr).length).length := by rw [List.nil_append, list_len]; exact tsize_pos t
  rw [lh_pos hpos, lh_nil] at hw
  unfold listOf
  rw [List.nil_append, List.length_nil] at hw
  generalize listT t 0 = ou at *
  have hdO := data_Exprs ou
  obtain ⟨tc, htc, hdt⟩ := enc_vptr t
  rw [htc] at hw ⊢
  unfold fn159
  simp -implicitDefEqProofs only [code_ops, code_seq, code_ret, ops_cons, ops_nil, aOp, opd, upd_at, upd_none, initTm_at, stepVal, stepHeap, aLoad1, aStore, leaf, acells_func, cellsSet, endFn, aResults, aResult, tupled, newIds_nil, newIds_cons, posOf, ren, renC, renO_box, renO_tail, idsV, idsC, idsO_box, wipeR_list, wipe_ptr, wipe_vptr, isData_list_full, isData_list_tail, isData_int, isData_func, isData_vptr, isData_ptr, isDataL_nil, isDataL_cons, Option.map_some, Option.getD_some, List.map_cons, List.map_nil, List.flatMap_cons, List.flatMap_nil, List.length_cons, List.length_nil, List.cons_append, List.nil_append, List.append_nil, List.getElem?_cons_zero, List.getElem?_cons_succ, List.set_cons_zero, List.set_cons_succ, List.take_succ_cons, List.take_zero, List.drop_succ_cons, List.drop_nil, List.all_cons, List.all_nil, List.mem_cons, List.not_mem_nil, ↓reduceIte, Bool.and_true, Bool.and_false, Bool.false_eq_true, and_true, and_false, or_true, or_false, not_true_eq_false, not_false_eq_true, decide_true, and_self, Nat.le_refl, Nat.zero_le, reduceCtorEq, Nat.add_zero, Nat.zero_add, Nat.reduceEqDiff, Nat.reduceAdd, Nat.reduceLT, Nat.reduceLeDiff, rCall_eq, rootsOf_eq, grow_eq, subHeap_eq, newOf_val, backRen_at, putBack_eq, pb_nil, pb_cons, backRes_val, outOf_val, hw, hdO, hdt, doCall_p L hp, hp]
end
end Go.Abs
