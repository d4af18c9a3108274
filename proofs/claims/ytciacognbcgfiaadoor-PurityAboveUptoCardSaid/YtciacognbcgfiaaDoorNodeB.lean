/-
  PARTS OF A PROOF, joined: an abstract machine for quiet code, its evaluation, and what the seat's functions answer on it. Conditions: none.
-/
import Derived.Test.YtciacognbcgfiaaDoorNodeA
/-
  The list of a node that is being built. Conditions: none.
-/
set_option linter.unusedVariables false
set_option linter.unusedSimpArgs false
set_option maxRecDepth 100000
set_option maxHeartbeats 4000000
namespace Go.Abs
theorem tsizes_len : ∀ ks : List CTree, ks.length ≤ tsizes ks
  | [] => by rw [tsizes]; simp
  | k :: ks => by rw [tsizes, List.length_cons]; have := tsize_pos k; have := tsizes_len ks; omega
section
variable {L : Lib} (hL : Plain L)
include hL
theorem node_node (h183 : L.fns 183 = some fn183) (op n : Int) (binds xk : List Int) (kids : List CNode) (alts : List CAlt) (ih : ∀ k ∈ kids, NodeOk L k) : NodeOk L (.mk op n binds xk kids alts) := by
  have hp := hL.pure
  intro outs hsz
  rw [toTree_eq, tsize] at hsz
  have hs : L.summ 183 = none := hL.summ 183 (by rw [h183]; exact fun hx => by cases hx)
  refine call_of hs h183 ?_
  have hkl : kids.length < 2 ^ 30 := by have := tsizes_len (kids.map toTree); rw [List.length_map] at this; omega
  have hT : (outs ++ listTs (kids.map toTree) outs.length).length = outs.length + tsizes (kids.map toTree) := by rw [List.length_append, list_lens]
  rw [toTree_eq]
  have hres : outs.length + tsize (.mk op n binds (kids.map toTree) alts) - 1 = (outs ++ listTs (kids.map toTree) outs.length).length := by rw [tsize, hT]; omega
  rw [hres, listT, ← List.append_assoc]
  have hdT := data_Nodes kids
  have hdA := data_Alts alts
  have hdX := data_Ints xk
  have hdI := data_Ints (rootsTs (kids.map toTree) outs.length)
  have hrl := rootsTs_len (kids.map toTree) outs.length
  rw [List.length_map] at hrl
  rw [encNode_eq]
  have hpos2 : ∀ x : CExpr, 0 < ((outs ++ listTs (kids.map toTree) outs.length) ++ [x]).length := fun x => by rw [List.length_append]; simp
  rw [mh_pos (hpos2 _)]
  have hlt : (outs ++ listTs (kids.map toTree) outs.length).length + 1 ≤ 1073741824 := by rw [hT]; omega
  have hw : IntKind.i64.wrap ((((outs ++ listTs (kids.map toTree) outs.length).length + 1 : Nat) : Int) - 1) = (((outs ++ listTs (kids.map toTree) outs.length).length : Nat) : Int) := by rw [wrap64 (by omega) (by omega)]; omega
  have hdO0 := data_Exprs outs
  rcases Nat.eq_zero_or_pos outs.length with hz | hz
  · have : outs = [] := List.length_eq_zero_iff.1 hz
    subst this
    have hl0 := node_l0B hL op n binds kids alts (by omega) hkl ih
    unfold nB nB' at hl0
    have e4 : nHB op n binds alts [] [] 0 = [.box [.list [] (some none)], .box [.int .i64 op, .int .i64 n, .list (binds.map encI) none, .list [] (some none), .list (alts.map encAlt) none]] := rfl
    rw [e4] at hl0
    simp only [Int.natCast_zero] at hl0
    rw [mh_nil]
    rw [List.nil_append, List.length_nil] at *
    by_cases hm : kids.length = 0
    · have : kids = [] := List.length_eq_zero_iff.1 hm
      subst this
      have e5 : listTs (([] : List CNode).map toTree) 0 = [] := by rw [List.map_nil, listTs]
      have e6 : rootsTs (([] : List CNode).map toTree) 0 = [] := rfl
      have hw1 : IntKind.i64.wrap 0 = 0 := rfl
      simp only [e5, e6] at hl0 hw hlt ⊢
      have e7 : nHB op n binds alts [] [] ([] : List CNode).length = [.box [.list [] (some none)], .box [.int .i64 op, .int .i64 n, .list (binds.map encI) none, .list [] (some none), .list (alts.map encAlt) none]] := rfl
      rw [e7] at hl0
      simp only [List.length_nil, Int.natCast_zero, List.map_nil] at hl0
      unfold fn183
      simp -implicitDefEqProofs only [code_ops, code_draw, code_seq, code_ret, ops_cons, ops_nil, aOp, opd, upd_at, upd_none, initTm_at, kt_cons, stepVal, stepHeap, aBin, aLen, aInt, isShift, aWanted, aLoad1, aStore, readAt, aField, leaf, acells_agg, acells_list, cellsSet, endFn, aResults, aResult, tupled, code_loopF, gcE, gc_mk, isTrim_cons, gcIds_mk, newIds_nil, newIds_cons, gcMap_at, posOf, ren, renC, renO_box, renO_tail, idsV, idsC, idsO_box, draw_eq, opsH_nil, opsH_cons, isLoud, aAppend, wipe_agg, wipeC_list, wipeC_int, isData_list_none, isData_list_full, isData_list_tail, isData_int, isData_agg, isData_ptr, isDataL_nil, isDataL_cons, Option.map_some, Option.getD_some, List.map_cons, List.map_nil, List.flatMap_cons, List.flatMap_nil, List.length_cons, List.length_nil, List.cons_append, List.nil_append, List.append_nil, List.getElem?_cons_zero, List.getElem?_cons_succ, List.set_cons_zero, List.set_cons_succ, List.take_succ_cons, List.take_zero, List.drop_succ_cons, List.drop_zero, List.take_nil, List.drop_nil, List.all_cons, List.all_nil, List.not_mem_nil, ↓reduceIte, Bool.and_true, Bool.false_eq_true, and_true, not_false_eq_true, decide_true, decide_false, and_self, Nat.le_refl, reduceCtorEq, Nat.add_zero, Nat.zero_add, Nat.reduceEqDiff, Nat.reduceAdd, Nat.reduceLT, Nat.reduceLeDiff, List.cons_ne_nil, maxLen_eq, checksP_nil, drawTo_if, kt_nil, Int.cast_ofNat_Int, code_frame_seq, encExpr_eq, data_Ints, hl0, hdA, hdX, hw, hw1, Int.natCast_zero, Int.natCast_one, Int.reduceSub, doCall_p L hp, hp]
    · have e7 : nHB op n binds alts (listTs (kids.map toTree) 0) (rootsTs (kids.map toTree) 0) kids.length = [.box [.list ((listTs (kids.map toTree) 0).map encExpr) (some (some 2))], .box [.int .i64 op, .int .i64 n, .list (binds.map encI) none, .list ((rootsTs (kids.map toTree) 0).map encI) (some (some 3)), .list (alts.map encAlt) none], .tail (listTs (kids.map toTree) 0).length 5, .tail kids.length 1] := if_neg hm
      rw [e7] at hl0
      generalize listTs (kids.map toTree) 0 = ou at *
      have hdO := data_Exprs ou
      have hallO := all_Exprs ou
      generalize rootsTs (kids.map toTree) 0 = ids at *
      unfold fn183
      simp -implicitDefEqProofs only [code_ops, code_draw, code_seq, code_ret, ops_cons, ops_nil, aOp, opd, upd_at, upd_none, initTm_at, kt_cons, stepVal, stepHeap, aBin, aLen, aInt, isShift, aWanted, aLoad1, aStore, readAt, aField, leaf, acells_agg, acells_list, cellsSet, endFn, aResults, aResult, tupled, code_loopF, gcE, gc_mk, isTrim_cons, gcIds_mk, newIds_nil, newIds_cons, gcMap_at, posOf, ren, renC, renO_box, renO_tail, idsV, idsC, idsO_box, draw_eq, opsH_nil, opsH_cons, isLoud, aAppend, wipe_agg, wipeC_list, wipeC_int, isData_list_none, isData_list_full, isData_list_tail, isData_int, isData_agg, isData_ptr, isDataL_nil, isDataL_cons, isDataL_append, Option.map_some, Option.getD_some, List.map_cons, List.map_nil, List.flatMap_cons, List.flatMap_nil, List.length_cons, List.length_nil, List.length_append, List.length_map, List.cons_append, List.nil_append, List.append_nil, List.getElem?_cons_zero, List.getElem?_cons_succ, List.set_cons_zero, List.set_cons_succ, List.take_succ_cons, List.take_zero, List.drop_succ_cons, List.drop_zero, List.take_nil, List.drop_nil, List.all_cons, List.all_nil, List.not_mem_nil, ↓reduceIte, Bool.and_true, Bool.false_eq_true, and_true, not_false_eq_true, decide_true, decide_false, and_self, Nat.le_refl, reduceCtorEq, Nat.add_zero, Nat.zero_add, Nat.reduceEqDiff, Nat.reduceAdd, Nat.reduceLT, Nat.reduceLeDiff, List.cons_ne_nil, maxLen_eq, checksP_nil, drawTo_if, List.map_append, kt_nil, code_frame_seq, encExpr_eq, data_Ints, hl0, hdA, hdT, hdX, hdI, hdO, hallO, hlt, hw, doCall_p L hp, hp]
  · have hl0 := node_l0A hL op n binds kids alts outs hz (by omega) hkl ih
    unfold nA nA' at hl0
    simp only [List.map_nil, ownAt_zero, tailAt_zero, List.append_nil, Int.natCast_zero] at hl0
    rw [mh_pos hz]
    generalize outs ++ listTs (kids.map toTree) outs.length = ou at *
    have hdO := data_Exprs ou
    have hallO := all_Exprs ou
    generalize rootsTs (kids.map toTree) outs.length = ids at *
    rcases own_cases 3 1 kids.length with ⟨k1, k2⟩ | ⟨k1, k2⟩ <;> rw [k1, k2] at hl0 <;> unfold fn183 <;>
      simp -implicitDefEqProofs only [code_ops, code_draw, code_seq, code_ret, ops_cons, ops_nil, aOp, opd, upd_at, upd_none, initTm_at, kt_cons, stepVal, stepHeap, aBin, aLen, aInt, isShift, aWanted, aLoad1, aStore, readAt, aField, leaf, acells_agg, acells_list, cellsSet, endFn, aResults, aResult, tupled, code_loopF, gcE, gc_mk, isTrim_cons, gcIds_mk, newIds_nil, newIds_cons, gcMap_at, posOf, ren, renC, renO_box, renO_tail, idsV, idsC, idsO_box, idsO_tail, draw_eq, opsH_nil, opsH_cons, isLoud, aAppend, wipe_agg, wipeC_list, wipeC_int, isData_list_none, isData_list_full, isData_list_tail, isData_int, isData_agg, isData_ptr, isDataL_nil, isDataL_cons, isDataL_append, Option.map_some, Option.getD_some, List.map_cons, List.map_nil, List.flatMap_cons, List.flatMap_nil, List.length_cons, List.length_nil, List.length_append, List.length_map, List.cons_append, List.nil_append, List.append_nil, List.getElem?_cons_zero, List.getElem?_cons_succ, List.set_cons_zero, List.set_cons_succ, List.take_succ_cons, List.take_zero, List.drop_succ_cons, List.drop_zero, List.take_nil, List.drop_nil, List.all_cons, List.all_nil, List.not_mem_nil, ↓reduceIte, Bool.and_true, Bool.false_eq_true, and_true, not_false_eq_true, decide_true, decide_false, and_self, Nat.le_refl, reduceCtorEq, Nat.add_zero, Nat.zero_add, Nat.reduceEqDiff, Nat.reduceAdd, Nat.reduceLT, Nat.reduceLeDiff, List.cons_ne_nil, maxLen_eq, checksP_nil, drawTo_if, List.map_append, kt_nil, code_frame_seq, encExpr_eq, data_Ints, hl0, hdA, hdT, hdX, hdI, hdO0, hdO, hallO, hlt, hw, doCall_p L hp, hp]
theorem node_ok2 (h183 : L.fns 183 = some fn183) (t : CNode) : NodeOk L t := by
  induction t using CNode.ind with
  | h op n binds xk kids alts ih => exact node_node hL h183 op n binds xk kids alts ih
/-- The list of a node. -/
theorem rlist_node (h183 : L.fns 183 = some fn183) (h154 : L.fns 154 = some fn154) (t : CNode) (hsz : tsize (toTree t) < 2 ^ 30) (h : Heap) :
    pcall L 154 [encNode t] h = some (.val (.list ((listOf (toTree t)).map encExpr) none), h) := by
  have hp := hL.pure
  have hw := node_ok2 hL h183 t [] (by simpa using hsz)
  refine pcall_fn hL h154 (by rw [isData_list_none]; exact data_Exprs _) ?_ h
  have hpos : 0 < ([] ++ listT (toTree t) ([] : List CExpr).length).length := by rw [List.nil_append, list_len]; exact tsize_pos _
  rw [mh_pos hpos, mh_nil] at hw
  unfold listOf
  rw [List.nil_append, List.length_nil] at hw
  generalize listT (toTree t) 0 = ou at *
  have hdO := data_Exprs ou
  obtain ⟨tc, htc, hdt⟩ := encN_vptr t
  rw [htc] at hw ⊢
  unfold fn154
  simp -implicitDefEqProofs only [code_ops, code_seq, code_ret, ops_cons, ops_nil, aOp, opd, upd_at, initTm_at, stepVal, aLoad1, endFn, aResults, aResult, tupled, newIds_nil, newIds_cons, posOf, ren, renC, renO_box, renO_tail, idsV, idsC, idsO_box, wipeR_list, wipe_ptr, wipe_vptr, isData_list_full, isData_list_tail, isData_int, isData_vptr, isData_ptr, isDataL_nil, isDataL_cons, Option.map_some, Option.getD_some, List.map_cons, List.map_nil, List.flatMap_cons, List.flatMap_nil, List.length_cons, List.length_nil, List.cons_append, List.nil_append, List.append_nil, List.getElem?_cons_zero, List.getElem?_cons_succ, List.take_succ_cons, List.take_zero, List.all_cons, List.all_nil, List.not_mem_nil, ↓reduceIte, Bool.and_true, Bool.and_false, Bool.false_eq_true, not_false_eq_true, decide_true, and_self, Nat.le_refl, reduceCtorEq, Nat.add_zero, Nat.zero_add, Nat.reduceEqDiff, Nat.reduceLT, rCall_eq, rootsOf_eq, grow_eq, subHeap_eq, newOf_val, backRen_at, putBack_eq, pb_nil, pb_cons, backRes_val, outOf_val, hw, hdO, hdt, doCall_p L hp, hp]
end
end Go.Abs
/-
  Nodes, as they are built. Conditions: none.
-/
set_option linter.unusedVariables false
set_option linter.unusedSimpArgs false
set_option maxRecDepth 100000
set_option maxHeartbeats 4000000
namespace Go.Abs
def nN (op n : Int) (kids : List CNode) : CNode := .mk op n [] [] kids []
section
variable {L : Lib} (hC : CLib2 L)
include hC
theorem nN_ok (op n : Int) (kids : List CNode) (h : Heap) : pcall L 177 [.int .i64 op, .int .i64 n, .list (kids.map encNode) none] h = some (.val (encNode (nN op n kids)), h) := by
  have hL := hC.plain
  have hp := hL.pure
  refine pcall_fn hL hC.f177 (data_Node _) ?_ h
  have hd := data_Nodes kids
  unfold nN
  rw [encNode_eq]
  unfold fn177
  simp -implicitDefEqProofs only [code_ops, code_seq, code_ret, ops_cons, ops_nil, aOp, opd, upd_at, initTm_at, stepVal, fillA, known, leaf, acells_agg, acells_int, acells_list, cellsSet, endFn, aResults, aResult, tupled, wipeC_list, wipeC_int, isData_list_none, isData_int, isDataL_nil, isDataL_cons, Option.map_some, Option.getD_some, List.map_cons, List.map_nil, List.length_cons, List.length_nil, List.cons_append, List.nil_append, List.append_nil, List.getElem?_cons_zero, List.getElem?_cons_succ, List.set_cons_zero, List.take_succ_cons, List.take_zero, List.drop_succ_cons, List.drop_zero, List.drop_nil, List.all_cons, List.all_nil, ↓reduceIte, Bool.and_true, and_self, Nat.le_refl, reduceCtorEq, Nat.zero_add, Nat.reduceEqDiff, Nat.reduceAdd, Nat.reduceLeDiff, code_freeze, freezeS_mk, frzAt_mk, frzT_at, frz, frzC, frzO, outOf_val, hd, wipeR_vptr]
theorem nlist_ok (t : CNode) (hsz : tsize (toTree t) < 2 ^ 30) (h : Heap) : pcall L 154 [encNode t] h = some (.val (.list ((listOf (toTree t)).map encExpr) none), h) := rlist_node hC.plain hC.f183 hC.f154 t hsz h
end
end Go.Abs
