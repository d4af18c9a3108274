/-
  Equality of trees up to names, and Order: the walk. Conditions: none.
-/
import Derived.Test.YtciacognbcgfiaaDoorCoreT
set_option linter.unusedVariables false
set_option linter.unusedSimpArgs false
set_option maxRecDepth 100000
set_option maxHeartbeats 4000000
namespace Go.Abs
theorem binders_len {op : Int} {binds binds' : List Int} {alts alts' : List CAlt} (hb : binds.length = binds'.length) (ha : alts.length = alts'.length) (h : altsNe alts alts' = false) : (bindersOf op binds alts).length = (bindersOf op binds' alts').length := by
  unfold bindersOf
  rw [List.length_append, List.length_append, all2_len alts alts' h ha]
  split
  · rw [hb]
  · rfl
section
variable {L : Lib} (hL : Plain L)
include hL
theorem same_tail (h232 : L.fns 232 = some fn232) (op n : Int) (binds : List Int) (kids : List CTree) (alts : List CAlt) (n' : Int) (binds' : List Int) (kids' : List CTree) (alts' : List CAlt)
    (ha : alts.length < 2 ^ 30) (hk : kids.length < 2 ^ 30) (hbf : (binds ++ alts.flatMap (·.binds)).length < 2 ^ 30) (hbf' : (binds' ++ alts'.flatMap (·.binds)).length < 2 ^ 30) (ha' : alts'.length < 2 ^ 30) (hlk : kids.length = kids'.length) (hlb : binds.length = binds'.length) (hla : alts.length = alts'.length)
    (ih : ∀ p ∈ kids.zip kids', SameOk L p.1 p.2) (m : IM Int) (tm : Tmps) (h0 : tm 0 = .vptr [.int .i64 op, .int .i64 n, .list (binds.map encI) none, .list (kids.map encTree) none, .list (alts.map encAlt) none] 0) (h1 : tm 1 = .vptr [.int .i64 op, .int .i64 n', .list (binds'.map encI) none, .list (kids'.map encTree) none, .list (alts'.map encAlt) none] 0) (h2 : tm 2 = .map (some 0)) :
    endFn [.tmp 6] (aCode L.pure (call L) fn189_t ⟨tm, [.map (encB m)]⟩) =
      some (.val (.bool (if altsNe alts alts' = true then (false, m) else sameKs kids kids' (putZip (bindersOf op binds alts) (bindersOf op binds' alts') m)).1), [.map (encB (if altsNe alts alts' = true then (false, m) else sameKs kids kids' (putZip (bindersOf op binds alts) (bindersOf op binds' alts') m)).2)]) := by
  have hp := hL.pure
  have hdA := data_Alts alts
  have hdA' := data_Alts alts'
  have hdT := data_Trees kids
  have hdT' := data_Trees kids'
  have hl0 := same_l0 (L := L) op n binds kids alts op n' binds' kids' alts' ha hla m
  simp only [Int.natCast_zero] at hl0
  cases ha1 : altsNe alts alts' with
  | true =>
    simp only [ha1, if_true] at hl0
    unfold fn189_t
    simp -implicitDefEqProofs only [code_ops, code_seq, ops_cons, ops_nil, aOp, opd, upd_at, kt_cons, stepVal, aLen, aLoad1, aField, endFn, aResults, aResult, tupled, code_loopF, gc_mk, isTrim_cons, gcIds_mk, newIds_nil, newIds_cons, gcMap_at, posOf, ren, renC, idsV, idsC, isData_list_none, isData_int, isData_vptr, isData_map, isDataL_nil, isDataL_cons, List.map_cons, List.map_nil, List.flatMap_cons, List.flatMap_nil, List.length_cons, List.length_nil, List.length_map, List.nil_append, List.append_nil, List.getElem?_cons_zero, List.getElem?_cons_succ, List.take_succ_cons, List.take_nil, List.not_mem_nil, ↓reduceIte, Bool.and_true, Bool.false_eq_true, and_true, not_false_eq_true, decide_false, Nat.le_refl, reduceCtorEq, Nat.zero_add, Nat.reduceEqDiff, Nat.reduceLT, Nat.reduceLeDiff, data_Ints, h0, h1, h2, hl0, hdA, hdA', hdT, hdT', b_ids, b_ren]
  | false =>
    simp only [ha1, Bool.false_eq_true, if_false] at hl0 ⊢
    have hb1 := binders_ok hL h232 op n binds (.list (kids.map encTree) none) (by rw [isData_list_none]; exact hdT) alts ha (by omega)
    have hb2 := binders_ok hL h232 op n' binds' (.list (kids'.map encTree) none) (by rw [isData_list_none]; exact hdT') alts' ha' (by omega)
    have hbl := binders_len (op := op) hlb hla ha1
    have hbl1 := opB_len op binds alts
    have hdB1 := data_Ints (bindersOf op binds alts)
    have hdB2 := data_Ints (bindersOf op binds' alts')
    generalize bindersOf op binds alts = l at *
    generalize bindersOf op binds' alts' = l' at *
    have hl1 := same_l1 (L := L) (.vptr [.int .i64 op, .int .i64 n, .list (binds.map encI) none, .list (kids.map encTree) none, .list (alts.map encAlt) none] 0) (.vptr [.int .i64 op, .int .i64 n', .list (binds'.map encI) none, .list (kids'.map encTree) none, .list (alts'.map encAlt) none] 0) (by simp only [isData, isDataL, data_Ints, hdT, hdA, Bool.and_self]) (by simp only [isData, isDataL, data_Ints, hdT', hdA', Bool.and_self]) l l' (by omega) hbl m
    have hl2 := same_l2 hL op n binds kids alts op n' binds' kids' alts' hk hlk ih (putZip l l' m)
    simp only [Int.natCast_zero] at hl1 hl2
    generalize putZip l l' m = m1 at *
    rcases hq : sameKs kids kids' m1 with ⟨b, m2⟩
    rw [hq] at hl2
    cases b with
    | true =>
      simp only [if_true] at hl2
      unfold fn189_t
      simp -implicitDefEqProofs only [code_ops, code_seq, code_ret, ops_cons, ops_nil, aOp, opd, upd_at, kt_cons, stepVal, aLen, aLoad1, aField, endFn, aResults, aResult, tupled, code_loopF, gc_mk, isTrim_cons, gcIds_mk, newIds_nil, newIds_cons, gcMap_at, posOf, ren, renC, idsV, idsC, wipe_vptr, isData_list_none, isData_int, isData_vptr, isData_map, isDataL_nil, isDataL_cons, List.map_cons, List.map_nil, List.flatMap_cons, List.flatMap_nil, List.length_cons, List.length_nil, List.length_map, List.nil_append, List.append_nil, List.getElem?_cons_zero, List.getElem?_cons_succ, List.take_succ_cons, List.take_nil, List.not_mem_nil, ↓reduceIte, Bool.and_true, Bool.false_eq_true, and_true, not_false_eq_true, decide_false, Nat.le_refl, reduceCtorEq, Nat.zero_add, Nat.reduceEqDiff, Nat.reduceLT, Nat.reduceLeDiff, kt_nil, data_Ints, h0, h1, h2, hl0, hb1, hb2, hl1, hl2, hdA, hdA', hdT, hdT', b_ids, b_ren, doCall_p L hp, hp]
    | false =>
      simp only [Bool.false_eq_true, if_false] at hl2
      unfold fn189_t
      simp -implicitDefEqProofs only [code_ops, code_seq, ops_cons, ops_nil, aOp, opd, upd_at, kt_cons, stepVal, aLen, aLoad1, aField, endFn, aResults, aResult, tupled, code_loopF, gc_mk, isTrim_cons, gcIds_mk, newIds_nil, newIds_cons, gcMap_at, posOf, ren, renC, idsV, idsC, wipe_vptr, isData_list_none, isData_int, isData_vptr, isData_map, isDataL_nil, isDataL_cons, List.map_cons, List.map_nil, List.flatMap_cons, List.flatMap_nil, List.length_cons, List.length_nil, List.length_map, List.nil_append, List.append_nil, List.getElem?_cons_zero, List.getElem?_cons_succ, List.take_succ_cons, List.take_nil, List.not_mem_nil, ↓reduceIte, Bool.and_true, Bool.false_eq_true, and_true, not_false_eq_true, decide_false, Nat.le_refl, reduceCtorEq, Nat.zero_add, Nat.reduceEqDiff, Nat.reduceLT, Nat.reduceLeDiff, kt_nil, data_Ints, h0, h1, h2, hl0, hb1, hb2, hl1, hl2, hdA, hdA', hdT, hdT', b_ids, b_ren, doCall_p L hp, hp]
theorem same_ok (h139 : L.fns 139 = some fn139) (h232 : L.fns 232 = some fn232) (h189 : L.fns 189 = some fn189) (t : CTree) (hf : TFit t) : ∀ t', TFit t' → SameOk L t t' := by
  have hp := hL.pure
  have hs : L.summ 189 = none := hL.summ 189 (by rw [h189]; exact fun hx => by cases hx)
  induction t using CTree.ind with
  | h op n binds kids alts ih =>
    intro t' hf' m
    cases hf with
    | mk _ _ _ _ _ hb hk ha hfk =>
    cases hf' with
    | mk op' n' binds' kids' alts' hb' hk' ha' hfk' =>
    refine call_of hs h189 ?_
    rw [encTree_eq, encTree_eq]
    have hdA := data_Alts alts
    have hdA' := data_Alts alts'
    have hdT := data_Trees kids
    have hdT' := data_Trees kids'
    rw [sameF]
    by_cases e1 : op = op'
    case neg =>
      have e1' : (op == op') = false := by simpa using e1
      rw [if_pos (.inl e1)]
      unfold fn189
      simp -implicitDefEqProofs only [code_ops, code_draw, code_seq, code_cond, code_ret, ops_cons, ops_nil, aOp, opd, upd_at, initTm_at, stepVal, aBin, aInt, isShift, aWanted, aLoad1, aField, endFn, aResults, aResult, tupled, draw_eq, opsH_nil, opsH_cons, isLoud, beqTF, Option.getD_some, List.nil_append, List.getElem?_cons_zero, List.getElem?_cons_succ, ↓reduceIte, Bool.not_false, Bool.false_eq_true, reduceCtorEq, Nat.add_zero, Nat.reduceEqDiff, checksP_nil, drawTo_if, e1', hdA, hdA', hdT, hdT', b_ids, b_ren, bne]
    subst e1
    by_cases e2 : kids.length = kids'.length
    case neg =>
      have e2' : ((kids.length : Int) == kids'.length) = false := by simp; omega
      rw [if_pos (.inr (.inl e2))]
      unfold fn189
      simp -implicitDefEqProofs only [code_ops, code_draw, code_seq, code_cond, code_ret, ops_cons, ops_nil, aOp, opd, upd_at, initTm_at, stepVal, aBin, aLen, aInt, isShift, aWanted, aLoad1, aField, endFn, aResults, aResult, tupled, draw_eq, opsH_nil, opsH_cons, isLoud, beqTF, beq_self_eq_true, Option.getD_some, List.length_map, List.nil_append, List.getElem?_cons_zero, List.getElem?_cons_succ, ↓reduceIte, Bool.not_true, Bool.not_false, Bool.false_eq_true, reduceCtorEq, Nat.add_zero, Nat.zero_add, Nat.reduceEqDiff, checksP_nil, drawTo_if, e2', hdA, hdA', hdT, hdT', b_ids, b_ren, bne]
    have e2' : ((kids.length : Int) == kids'.length) = true := by simp; omega
    by_cases e3 : binds.length = binds'.length
    case neg =>
      have e3' : ((binds.length : Int) == binds'.length) = false := by simp; omega
      rw [if_pos (.inr (.inr (.inl e3)))]
      unfold fn189
      simp -implicitDefEqProofs only [code_ops, code_draw, code_seq, code_cond, code_ret, ops_cons, ops_nil, aOp, opd, upd_at, initTm_at, stepVal, aBin, aLen, aInt, isShift, aWanted, aLoad1, aField, endFn, aResults, aResult, tupled, draw_eq, opsH_nil, opsH_cons, isLoud, beqTF, beq_self_eq_true, Option.getD_some, List.length_map, List.nil_append, List.getElem?_cons_zero, List.getElem?_cons_succ, ↓reduceIte, Bool.not_true, Bool.not_false, Bool.false_eq_true, reduceCtorEq, Nat.add_zero, Nat.zero_add, Nat.reduceEqDiff, checksP_nil, drawTo_if, e2', e3', hdA, hdA', hdT, hdT', b_ids, b_ren, bne]
    have e3' : ((binds.length : Int) == binds'.length) = true := by simp; omega
    by_cases e4 : alts.length = alts'.length
    case neg =>
      have e4' : ((alts.length : Int) == alts'.length) = false := by simp; omega
      rw [if_pos (.inr (.inr (.inr e4)))]
      unfold fn189
      simp -implicitDefEqProofs only [code_ops, code_draw, code_seq, code_cond, code_ret, ops_cons, ops_nil, aOp, opd, upd_at, initTm_at, stepVal, aBin, aLen, aInt, isShift, aWanted, aLoad1, aField, endFn, aResults, aResult, tupled, draw_eq, opsH_nil, opsH_cons, isLoud, beq_self_eq_true, Option.getD_some, List.length_map, List.nil_append, List.getElem?_cons_zero, List.getElem?_cons_succ, ↓reduceIte, Bool.not_true, Bool.not_false, Bool.false_eq_true, reduceCtorEq, Nat.add_zero, Nat.zero_add, Nat.reduceEqDiff, checksP_nil, drawTo_if, e2', e3', e4', hdA, hdA', hdT, hdT', b_ids, b_ren, bne]
    have e4' : ((alts.length : Int) == alts'.length) = true := by simp; omega
    rw [if_neg (by simp [e2, e3, e4])]
    by_cases h0 : op = 0
    · subst h0
      rw [if_pos rfl]
      unfold varSame
      have hlk := fun (h : Heap) (hr : h[0]? = some (.map (encB m))) => lookK encI h 0 (.int .i64 0) true n m hr
      cases hq : findK n m with
      | some x =>
        rw [hq] at hlk
        cases hx : (x == n') <;> unfold fn189 <;> simp -implicitDefEqProofs only [code_skip, code_ops, code_draw, code_seq, code_cond, code_block, code_ret, ops_cons, ops_nil, aOp, opd, upd_at, initTm_at, stepVal, aBin, aLen, aInt, aUn, isShift, aWanted, aLoad1, aField, endFn, aResults, aResult, tupled, draw_eq, opsH_nil, opsH_cons, isLoud, beqTF, beqFT, beq_self_eq_true, Option.getD_some, List.length_map, List.nil_append, List.getElem?_cons_zero, List.getElem?_cons_succ, ↓reduceIte, Bool.not_true, Bool.false_eq_true, reduceCtorEq, Nat.add_zero, Nat.zero_add, Nat.reduceEqDiff, checksP_nil, drawTo_if, encI_eq, e2', e3', e4', hlk, hx, hdA, hdA', hdT, hdT', b_ids, b_ren, bne]
      | none =>
        rw [hq] at hlk
        cases hx : (n == n') <;> unfold fn189 <;> simp -implicitDefEqProofs only [code_skip, code_ops, code_draw, code_seq, code_cond, code_block, code_ret, ops_cons, ops_nil, aOp, opd, upd_at, initTm_at, stepVal, aBin, aLen, aInt, aUn, isShift, aWanted, aLoad1, aField, endFn, aResults, aResult, tupled, draw_eq, opsH_nil, opsH_cons, isLoud, beqFT, beq_self_eq_true, Option.getD_some, List.length_map, List.nil_append, List.getElem?_cons_zero, List.getElem?_cons_succ, ↓reduceIte, Bool.not_true, Bool.not_false, Bool.false_eq_true, reduceCtorEq, Nat.add_zero, Nat.zero_add, Nat.reduceEqDiff, checksP_nil, drawTo_if, e2', e3', e4', hlk, hx, hdA, hdA', hdT, hdT', b_ids, b_ren, bne]
    have h0' : (op == 0) = false := by simpa using h0
    rw [if_neg h0]
    have T := same_tail hL h232 op n binds kids alts n' binds' kids' alts' ha hk hb hb' ha' e2 e3 e4 (fun p hp' => by
      obtain ⟨h1, h2⟩ := List.of_mem_zip (a := p.1) (b := p.2) hp'
      exact ih p.1 h1 (hfk p.1 h1) p.2 (hfk' p.2 h2)) m
    by_cases h5 : n = n'
    case neg =>
      have h5' : (n == n') = false := by simpa using h5
      rw [if_pos (.inl h5)]
      unfold fn189
      generalize fn189_t = tl at *
      simp -implicitDefEqProofs only [code_skip, code_ops, code_draw, code_seq, code_cond, code_block, code_ret, ops_cons, ops_nil, aOp, opd, upd_at, initTm_at, stepVal, aBin, aLen, aInt, isShift, aWanted, aLoad1, aField, endFn, aResults, aResult, tupled, draw_eq, opsH_nil, opsH_cons, isLoud, beqTF, beq_self_eq_true, Option.getD_some, List.length_map, List.nil_append, List.getElem?_cons_zero, List.getElem?_cons_succ, ↓reduceIte, Bool.not_true, Bool.not_false, Bool.false_eq_true, reduceCtorEq, Nat.add_zero, Nat.zero_add, Nat.reduceEqDiff, checksP_nil, drawTo_if, e2', e3', e4', h0', h5', hdA, hdA', hdT, hdT', b_ids, b_ren, bne]
    subst h5
    by_cases h9 : op = 9
    · subst h9
      have hq := eqInts139 hL h139 binds binds' (by rw [List.length_append] at hb; omega)
      by_cases hbb : binds = binds'
      · have hd : decide (binds = binds') = true := by simpa using hbb
        rw [hd] at hq
        rw [if_neg (by simp [hbb])]
        unfold fn189
        generalize fn189_t = tl at *
        simp -implicitDefEqProofs only [code_skip, code_ops, code_draw, code_seq, code_cond, code_block, ops_cons, ops_nil, aOp, opd, upd_at, initTm_at, stepVal, aBin, aLen, aInt, aUn, isShift, aWanted, aLoad1, aField, endFn, aResults, aResult, tupled, draw_eq, opsH_nil, opsH_cons, isLoud, wipe_list, isData_list_none, isDataL_nil, isDataL_cons, beq_self_eq_true, Option.getD_some, List.map_cons, List.map_nil, List.length_map, List.nil_append, List.getElem?_cons_zero, List.getElem?_cons_succ, ↓reduceIte, Bool.and_true, Bool.not_true, Bool.false_eq_true, and_self, reduceCtorEq, Nat.add_zero, Nat.zero_add, Nat.reduceEqDiff, checksP_nil, drawTo_if, Int.reduceBEq, onlyVal, data_Ints, e2', e3', e4', hq, hdA, hdA', hdT, hdT', b_ids, b_ren, bne, doCall_p L hp, hp]
        exact T _ (by simp -implicitDefEqProofs only [upd_at, initTm_at, Option.getD_some, List.getElem?_cons_zero, ↓reduceIte, reduceCtorEq]) (by simp -implicitDefEqProofs only [upd_at, initTm_at, Option.getD_some, List.getElem?_cons_zero, List.getElem?_cons_succ, ↓reduceIte, Nat.reduceEqDiff]) (by simp -implicitDefEqProofs only [upd_at, initTm_at, Option.getD_some, List.getElem?_cons_zero, List.getElem?_cons_succ, ↓reduceIte, Nat.reduceEqDiff])
      · have hd : decide (binds = binds') = false := by simpa using hbb
        rw [hd] at hq
        rw [if_pos (.inr ⟨rfl, hbb⟩)]
        unfold fn189
        generalize fn189_t = tl at *
        simp -implicitDefEqProofs only [code_skip, code_ops, code_draw, code_seq, code_cond, code_block, code_ret, ops_cons, ops_nil, aOp, opd, upd_at, initTm_at, stepVal, aBin, aLen, aInt, aUn, isShift, aWanted, aLoad1, aField, endFn, aResults, aResult, tupled, draw_eq, opsH_nil, opsH_cons, isLoud, wipe_list, isData_list_none, isDataL_nil, isDataL_cons, beq_self_eq_true, Option.getD_some, List.map_cons, List.map_nil, List.length_map, List.nil_append, List.getElem?_cons_zero, List.getElem?_cons_succ, ↓reduceIte, Bool.and_true, Bool.not_true, Bool.not_false, Bool.false_eq_true, and_self, reduceCtorEq, Nat.add_zero, Nat.zero_add, Nat.reduceEqDiff, checksP_nil, drawTo_if, Int.reduceBEq, onlyVal, data_Ints, e2', e3', e4', hq, hdA, hdA', hdT, hdT', b_ids, b_ren, bne, doCall_p L hp, hp]
    · have h9' : (op == 9) = false := by simpa using h9
      rw [if_neg (by simp [h9])]
      unfold fn189
      generalize fn189_t = tl at *
      simp -implicitDefEqProofs only [code_skip, code_ops, code_draw, code_seq, code_cond, code_block, ops_cons, ops_nil, aOp, opd, upd_at, initTm_at, stepVal, aBin, aLen, aInt, isShift, aWanted, aLoad1, aField, endFn, aResults, aResult, tupled, draw_eq, opsH_nil, opsH_cons, isLoud, beqFT, beq_self_eq_true, Option.getD_some, List.length_map, List.nil_append, List.getElem?_cons_zero, List.getElem?_cons_succ, ↓reduceIte, Bool.not_true, Bool.false_eq_true, reduceCtorEq, Nat.add_zero, Nat.zero_add, Nat.reduceEqDiff, checksP_nil, drawTo_if, e2', e3', e4', h0', h9', hdA, hdA', hdT, hdT', b_ids, b_ren, bne, doCall_p L hp, hp]
      exact T _ (by simp -implicitDefEqProofs only [upd_at, initTm_at, Option.getD_some, List.getElem?_cons_zero, ↓reduceIte, reduceCtorEq]) (by simp -implicitDefEqProofs only [upd_at, initTm_at, Option.getD_some, List.getElem?_cons_zero, List.getElem?_cons_succ, ↓reduceIte, Nat.reduceEqDiff]) (by simp -implicitDefEqProofs only [upd_at, initTm_at, Option.getD_some, List.getElem?_cons_zero, List.getElem?_cons_succ, ↓reduceIte, Nat.reduceEqDiff])
theorem sameTree_ok (h139 : L.fns 139 = some fn139) (h232 : L.fns 232 = some fn232) (h189 : L.fns 189 = some fn189) (h164 : L.fns 164 = some fn164) (t t' : CTree) (hf : TFit t) (hf' : TFit t') (h : Heap) :
    pcall L 164 [encTree t, encTree t'] h = some (.val (.bool (sameF t t' []).1), h) := by
  have hp := hL.pure
  have hs := same_ok hL h139 h232 h189 t hf t' hf' []
  refine pcall_fn hL h164 rfl ?_ h
  obtain ⟨tc, htc, hdt⟩ := enc_vptr t
  obtain ⟨tc', htc', hdt'⟩ := enc_vptr t'
  have hn : encB [] = [] := rfl
  rw [hn] at hs
  rw [htc, htc'] at hs ⊢
  unfold fn164
  simp -implicitDefEqProofs only [code_ops, code_seq, code_ret, ops_cons, ops_nil, aOp, opd, upd_at, initTm_at, endFn, aResults, aResult, tupled, newIds_nil, newIds_cons, posOf, ren, renC, renO_nilm, idsV, idsC, idsO_nilm, wipeR_bool, wipe_vptr, wipe_map, isData_bool, isData_vptr, isData_map, isDataL_nil, isDataL_cons, Option.getD_some, List.map_cons, List.map_nil, List.flatMap_cons, List.flatMap_nil, List.length_cons, List.length_nil, List.nil_append, List.append_nil, List.getElem?_cons_zero, List.getElem?_cons_succ, List.take_succ_cons, List.take_nil, List.all_cons, List.all_nil, List.not_mem_nil, ↓reduceIte, Bool.and_true, Bool.and_false, Bool.false_eq_true, not_false_eq_true, decide_true, and_self, Nat.le_refl, reduceCtorEq, Nat.zero_add, Nat.reduceEqDiff, Nat.reduceLT, rCall_eq, rootsOf_eq, grow_eq, subHeap_eq, newOf_val, putBack_eq, pb_nil, pb_cons, backRes_val, outOf_val, hs, hdt, hdt', b_ids, b_ren, doCall_p L hp, hp]
end
end Go.Abs
