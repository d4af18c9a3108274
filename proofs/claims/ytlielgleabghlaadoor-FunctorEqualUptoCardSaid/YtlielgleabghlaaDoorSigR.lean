/-
  What kindsError and Check answer. Conditions: none.
-/
import Derived.Test.YtlielgleabghlaaDoorSigP

set_option linter.unusedVariables false
set_option linter.unusedSimpArgs false
set_option maxRecDepth 100000
set_option maxHeartbeats 4000000
namespace Go.Abs

theorem kindsError_ok {L : Lib} {ca : ByteArray → ByteArray → Bool} (hL : Plain L) (hP : Prims L ca) (h68 : L.fns 68 = some fn68) (h67 : L.fns 67 = some fn67) (h49 : L.fns 49 = some fn49) (h61 : L.fns 61 = some fn61) (hf : L.fns 39 = some fn39)
    (l : List DataSig) (hl : l.length < 2 ^ 30) (s : SigSpec) (hd : s.datas.length < 2 ^ 30) (hdc : ∀ d ∈ s.datas, d.cons.length < 2 ^ 30) (hv : s.vals.length < 2 ^ 30) (hvp : ∀ v ∈ s.vals, v.scheme.preds.length < 2 ^ 30)
    (ht : (typesOf s).length < 2 ^ 30) (hfit : ∀ t ∈ typesOf s, TyFit t) (h : Heap) :
    pcall L 39 [.list (l.map encData) none, .agg [.list (s.datas.map encData) none, .list (s.vals.map encVal) none]] h = some (.val (.int .i64 (kindsError l s)), h) := by
  have hp := hL.pure
  have hlen : (dataTypes s.datas).length + (valTypes s.vals).length < 2 ^ 30 := by simpa [typesOf] using ht
  have hl1 := kinds_l1 (L := L) s (.list (l.map encData) none) (by simp -implicitDefEqProofs only [isData_list_none, data_Datas]) s.datas hd hdc (by omega)
  unfold k1_C at hl1
  simp only [Int.natCast_zero, List.length_nil, ownAt_zero, tailAt_zero, List.map_nil] at hl1
  have hN := kinds_l4 hL hP h68 h67 h49 h61 l hl s (typesOf s) ht hfit (some none) [] (.inl ⟨rfl, rfl⟩)
  have hT := kinds_l4 hL hP h68 h67 h49 h61 l hl s (typesOf s) ht hfit (some (some 1)) _ (.inr ⟨rfl, rfl⟩)
  simp only [Int.natCast_zero, List.length_nil, List.length_cons, Nat.add_zero, Nat.zero_add, Nat.reduceAdd] at hN hT
  refine pcall_fn hL hf rfl ?_ h
  unfold fn39 kindsError
  rcases Nat.eq_zero_or_pos (dataTypes s.datas).length with hz | hz
  · have hnil : dataTypes s.datas = [] := List.eq_nil_of_length_eq_zero hz
    have hto : typesOf s = valTypes s.vals := by unfold typesOf; rw [hnil]; rfl
    have hl3 := kinds_l3B (L := L) s (.list (l.map encData) none) (by simp -implicitDefEqProofs only [isData_list_none, data_Datas]) s.vals hv hvp (by omega)
    unfold v3B_C at hl3
    simp only [Int.natCast_zero, List.length_nil, ownAt_zero, tailAt_zero, List.map_nil] at hl3
    simp only [hnil, List.map_nil, List.length_nil, ownAt_zero, tailAt_zero] at hl1
    rw [hto] at hN hT ⊢
    by_cases he : firstErr ((valTypes s.vals).map (kindError l)) = 0 <;> rcases own_cases 1 4 (valTypes s.vals).length with ⟨g1, g2⟩ | ⟨g1, g2⟩ <;>
      simp -implicitDefEqProofs only [code_ops, code_seq, code_ret, ops_cons, ops_nil, aOp, opd, upd_at, initTm_at, kt_cons, stepVal, aLen, aLoad1, aField, acells_agg, endFn, aResults, aResult, tupled, code_loopF, gc_mk, gcIds_mk, newIds_nil, newIds_cons, gcMap_at, posOf, ren, renC, renO_box, renO_tail, idsV, idsC, idsO_box, idsO_tail, wipeR_int, isData_list_none, isData_list_full, isData_list_tail, isData_int, isData_ptr, isDataL_nil, Option.getD_some, List.map_cons, List.map_nil, List.flatMap_cons, List.flatMap_nil, List.length_cons, List.length_nil, List.length_map, List.nil_append, List.append_nil, List.getElem?_cons_zero, List.getElem?_cons_succ, List.take_succ_cons, List.take_nil, List.not_mem_nil, ↓reduceIte, Bool.false_eq_true, and_true, not_false_eq_true, Nat.le_refl, reduceCtorEq, Nat.add_zero, Nat.zero_add, Nat.reduceEqDiff, Nat.reduceAdd, Nat.reduceLT, Nat.reduceLeDiff, kt_nil, data_Tys, data_Datas, data_Vals, outOf_val, hl1, hl3, hN, hT, he, g1, g2]
  · have hl3 := kinds_l3A (L := L) s (.list (l.map encData) none) (by simp -implicitDefEqProofs only [isData_list_none, data_Datas]) s.vals hv hvp (dataTypes s.datas) hlen
    unfold v3A_C at hl3
    simp only [Int.natCast_zero] at hl3
    rw [ownAt_pos hz, tailAt_pos hz] at hl1
    rw [show dataTypes s.datas ++ valTypes s.vals = typesOf s from rfl] at hl3
    by_cases he : firstErr ((typesOf s).map (kindError l)) = 0 <;> simp -implicitDefEqProofs only [code_ops, code_seq, code_ret, ops_cons, ops_nil, aOp, opd, upd_at, initTm_at, kt_cons, stepVal, aLen, aLoad1, aField, acells_agg, endFn, aResults, aResult, tupled, code_loopF, gc_mk, gcIds_mk, newIds_nil, newIds_cons, gcMap_at, posOf, ren, renC, renO_box, renO_tail, idsV, idsC, idsO_box, idsO_tail, wipeR_int, isData_list_none, isData_list_full, isData_list_tail, isData_int, isData_ptr, isDataL_nil, Option.getD_some, List.map_cons, List.map_nil, List.flatMap_cons, List.flatMap_nil, List.length_cons, List.length_nil, List.length_map, List.nil_append, List.append_nil, List.getElem?_cons_zero, List.getElem?_cons_succ, List.take_succ_cons, List.take_nil, List.not_mem_nil, ↓reduceIte, Bool.false_eq_true, and_true, not_false_eq_true, Nat.le_refl, reduceCtorEq, Nat.add_zero, Nat.zero_add, Nat.reduceEqDiff, Nat.reduceAdd, Nat.reduceLT, Nat.reduceLeDiff, kt_nil, data_Tys, data_Datas, data_Vals, outOf_val, hl1, hl3, hT, he]

/-! ### Check -/
def leB (a b : ByteArray) : Bool := !(Op.bytesLess b.toList a.toList)
def geB (a b : ByteArray) : Bool := !(Op.bytesLess a.toList b.toList)
def dataAt (ca : ByteArray → ByteArray → Bool) (ds : List DataSig) (i : Nat) : Int :=
  match ds[i]? with
  | none => 0
  | some d => if dataError ca d ≠ 0 then dataError ca d else match i with | 0 => 0 | j + 1 => (match ds[j]? with | some c => if geB c.name d.name = true then 7 else 0 | none => 0)
def valAt (ca : ByteArray → ByteArray → Bool) (vs : List ValSig) (i : Nat) : Int :=
  match vs[i]? with
  | none => 0
  | some v => if cutB ca v.name = true then 3 else if schemeError ca v.scheme ≠ 0 then schemeError ca v.scheme else match i with | 0 => 0 | j + 1 => (match vs[j]? with | some c => if geB c.name v.name = true then 7 else 0 | none => 0)
def check (ca : ByteArray → ByteArray → Bool) (s : SigSpec) : Int :=
  if (s.datas.length : Int) > 40 then 2 else if (s.vals.length : Int) > 40 then 2
  else if firstErr ((List.range s.datas.length).map (dataAt ca s.datas)) ≠ 0 then firstErr ((List.range s.datas.length).map (dataAt ca s.datas))
  else if firstErr ((List.range s.vals.length).map (valAt ca s.vals)) ≠ 0 then firstErr ((List.range s.vals.length).map (valAt ca s.vals))
  else kindsError s.datas s

theorem check_l0 {L : Lib} {ca : ByteArray → ByteArray → Bool} (hL : Plain L) (hde : ∀ d : DataSig, d.cons.length < 2 ^ 30 → ∀ h : Heap, pcall L 37 [.agg [.str d.name, .int .i64 d.params, .list (d.cons.map encCon) none]] h = some (.val (.int .i64 (dataError ca d)), h))
    (s : SigSpec) (hl : s.datas.length < 2 ^ 30) (hc : ∀ d ∈ s.datas, d.cons.length < 2 ^ 30) :
    loopF L.pure (call L) 1 [1, 20, 21, 22] [1, 2] 0 fn12_l0 ⟨kt [1, 20, 21, 22] [.ptr (some (0, 0)), .list (s.datas.map encData) none, .int .i64 s.datas.length, .int .i64 ((0 : Nat) : Int)], [.box [.list (s.datas.map encData) none, .list (s.vals.map encVal) none]]⟩ =
    some (if firstErr ((List.range s.datas.length).map (dataAt ca s.datas)) = 0 then (.normal, ⟨kt [1, 2] [.ptr (some (0, 0)), .junk], [.box [.list (s.datas.map encData) none, .list (s.vals.map encVal) none]]⟩)
      else (.ret, ⟨kt [1, 2] [.ptr (some (0, 0)), .int .i64 (firstErr ((List.range s.datas.length).map (dataAt ca s.datas)))], [.box [.list (s.datas.map encData) none, .list (s.vals.map encVal) none]]⟩)) := by
  have hp := hL.pure
  refine loopF_err (List.range s.datas.length) (dataAt ca s.datas) (fun i => ⟨kt [1, 20, 21, 22] [.ptr (some (0, 0)), .list (s.datas.map encData) none, .int .i64 s.datas.length, .int .i64 i], [.box [.list (s.datas.map encData) none, .list (s.vals.map encVal) none]]⟩)
    ⟨kt [1, 2] [.ptr (some (0, 0)), .junk], _⟩ (fun e => ⟨kt [1, 2] [.ptr (some (0, 0)), .int .i64 e], _⟩) ?_ ?_ ?_
  · intro i hi he
    rw [List.length_range] at hi
    rw [List.getElem_range] at he
    obtain ⟨h1, h2, h3⟩ := round_facts encData s.datas hl i hi
    have ih1 := hde s.datas[i] (hc _ (List.getElem_mem hi))
    simp only [dataAt, List.getElem?_eq_getElem hi] at he
    by_cases hz : dataError ca s.datas[i] = 0
    · cases i with
      | zero =>
        have h1 : (0 : Int) < s.datas.length := by omega
        have h2 : IntKind.i64.wrap 1 = 1 := by decide
        generalize s.datas[0] = a at *
        unfold fn12_l0
        simp -implicitDefEqProofs only [code_skip, code_ops, code_draw, code_seq, code_cond, code_block, ops_cons, ops_nil, aOp, opd, upd_at, upd_none, kt_cons, stepVal, stepHeap, aBin, aInt, aIndexList, isShift, aWanted, aStore, readAt, leaf, acells_agg, cellsSet, gc_mk, gcIds_mk, newIds_nil, newIds_cons, gcMap_at, posOf, ren, renC, renO_box, idsV, idsC, idsO_box, draw_eq, opsH_nil, opsH_cons, isLoud, wipe_agg, wipeC_list, wipeC_int, wipeC_str, isData_list_none, isData_int, isData_str, isData_agg, isData_ptr, isDataL_nil, isDataL_cons, beqFT, beq_self_eq_true, Option.map_some, List.map_cons, List.map_nil, List.flatMap_cons, List.flatMap_nil, List.length_cons, List.length_nil, List.cons_append, List.nil_append, List.append_nil, List.getElem?_cons_zero, List.getElem?_cons_succ, List.set_cons_zero, List.set_cons_succ, List.take_succ_cons, List.take_zero, List.drop_succ_cons, List.drop_zero, List.take_nil, List.drop_nil, List.all_cons, List.all_nil, List.not_mem_nil, ↓reduceIte, Bool.and_true, Bool.not_true, Bool.false_eq_true, and_true, not_false_eq_true, decide_true, decide_false, and_self, Nat.le_refl, Nat.zero_add, Nat.reduceEqDiff, Nat.reduceAdd, Nat.reduceLT, Nat.reduceLeDiff, Int.reduceToNat, Int.reduceLE, Int.reduceLT, roundF_eq, checksP_nil, drawTo_if, Int.reduceAdd, kt_nil, Int.cast_ofNat_Int, gt_iff_lt, onlyVal, encData_eq, data_Cons, data_Datas, data_Vals, h1, h2, h3, ih1, hz, doCall_p L hp, hp, bne]
      | succ j =>
        have hj : j < s.datas.length := by omega
        have h4 : IntKind.i64.wrap (((j + 1 : Nat) : Int) - 1) = (j : Int) := by rw [wrap64 (by omega) (by omega)]; omega
        have h5 : (s.datas.map encData)[j]? = some (encData s.datas[j]) := by simp [hj]
        have h6 : (((j + 1 : Nat) : Int) > 0) := by omega
        simp only [List.getElem?_eq_getElem hj, hz, ne_eq, not_true_eq_false, if_false] at he
        have h7 : geB s.datas[j].name s.datas[j + 1].name = false := by
          cases hq : geB s.datas[j].name s.datas[j + 1].name with
          | false => rfl
          | true => simp [hq] at he
        unfold geB at h7
        generalize s.datas[j + 1] = a at *
        generalize s.datas[j] = b at *
        unfold fn12_l0
        simp -implicitDefEqProofs only [code_skip, code_ops, code_draw, code_seq, code_cond, code_block, ops_cons, ops_nil, aOp, opd, upd_at, upd_none, kt_cons, stepVal, stepHeap, aBin, aStr, aInt, aIndexList, isShift, aWanted, aLoad1, aStore, readAt, aField, leaf, acells_agg, cellsSet, gc_mk, gcIds_mk, newIds_nil, newIds_cons, gcMap_at, posOf, ren, renC, renO_box, idsV, idsC, idsO_box, draw_eq, opsH_nil, opsH_cons, isLoud, wipe_agg, wipeC_list, wipeC_int, wipeC_str, isData_list_none, isData_int, isData_str, isData_agg, isData_ptr, isDataL_nil, isDataL_cons, beq_self_eq_true, Option.map_some, List.map_cons, List.map_nil, List.flatMap_cons, List.flatMap_nil, List.length_cons, List.length_nil, List.cons_append, List.nil_append, List.append_nil, List.getElem?_cons_zero, List.getElem?_cons_succ, List.set_cons_zero, List.set_cons_succ, List.take_succ_cons, List.take_zero, List.drop_succ_cons, List.drop_zero, List.take_nil, List.drop_nil, List.all_cons, List.all_nil, List.not_mem_nil, ↓reduceIte, Bool.and_true, Bool.not_true, Bool.false_eq_true, and_true, not_false_eq_true, decide_true, and_self, Nat.le_refl, Nat.add_zero, Nat.zero_add, Nat.reduceEqDiff, Nat.reduceAdd, Nat.reduceLT, Nat.reduceLeDiff, Int.toNat_natCast, Int.natCast_nonneg, roundF_eq, checksP_nil, drawTo_if, kt_nil, gt_iff_lt, onlyVal, encData_eq, data_Cons, data_Datas, data_Vals, h1, h2, h3, h4, h5, h6, h7, ih1, hz, doCall_p L hp, hp, bne]
    · simp [hz] at he
  · intro i hi he
    rw [List.length_range] at hi
    rw [List.getElem_range] at he ⊢
    obtain ⟨h1, h2, h3⟩ := round_facts encData s.datas hl i hi
    have ih1 := hde s.datas[i] (hc _ (List.getElem_mem hi))
    simp only [dataAt, List.getElem?_eq_getElem hi] at he ⊢
    by_cases hz : dataError ca s.datas[i] = 0
    · cases i with
      | zero => simp [hz] at he
      | succ j =>
        have hj : j < s.datas.length := by omega
        have h4 : IntKind.i64.wrap (((j + 1 : Nat) : Int) - 1) = (j : Int) := by rw [wrap64 (by omega) (by omega)]; omega
        have h5 : (s.datas.map encData)[j]? = some (encData s.datas[j]) := by simp [hj]
        have h6 : (((j + 1 : Nat) : Int) > 0) := by omega
        simp only [List.getElem?_eq_getElem hj, hz, ne_eq, not_true_eq_false, if_false] at he ⊢
        have h7 : geB s.datas[j].name s.datas[j + 1].name = true := by
          cases hq : geB s.datas[j].name s.datas[j + 1].name with
          | true => rfl
          | false => simp [hq] at he
        have h7' := h7
        unfold geB at h7
        generalize s.datas[j + 1] = a at *
        generalize s.datas[j] = b at *
        unfold fn12_l0
        simp -implicitDefEqProofs only [code_skip, code_ops, code_draw, code_seq, code_cond, code_block, code_ret, ops_cons, ops_nil, aOp, opd, upd_at, upd_none, kt_cons, stepVal, stepHeap, aBin, aStr, aInt, aIndexList, isShift, aWanted, aLoad1, aStore, readAt, aField, leaf, acells_agg, cellsSet, gcE, gc_mk, gcIds_mk, newIds_nil, newIds_cons, gcMap_at, posOf, ren, renC, renO_box, idsV, idsC, idsO_box, draw_eq, opsH_nil, opsH_cons, isLoud, wipe_agg, wipeC_list, wipeC_int, wipeC_str, isData_list_none, isData_int, isData_str, isData_agg, isData_ptr, isDataL_nil, isDataL_cons, beq_self_eq_true, Option.map_some, List.map_cons, List.map_nil, List.flatMap_cons, List.flatMap_nil, List.length_cons, List.length_nil, List.cons_append, List.nil_append, List.append_nil, List.getElem?_cons_zero, List.getElem?_cons_succ, List.set_cons_zero, List.set_cons_succ, List.take_succ_cons, List.take_zero, List.drop_succ_cons, List.drop_zero, List.take_nil, List.drop_nil, List.all_cons, List.all_nil, List.not_mem_nil, ↓reduceIte, Bool.and_true, Bool.not_true, Bool.false_eq_true, and_true, not_false_eq_true, decide_true, and_self, Nat.le_refl, Nat.add_zero, Nat.zero_add, Nat.reduceEqDiff, Nat.reduceAdd, Nat.reduceLT, Nat.reduceLeDiff, Int.toNat_natCast, Int.natCast_nonneg, roundF_eq, checksP_nil, drawTo_if, kt_nil, gt_iff_lt, onlyVal, encData_eq, data_Cons, data_Datas, data_Vals, h1, h2, h3, h4, h5, h6, h7, h7', ih1, hz, doCall_p L hp, hp, bne]
    · have hz' : (dataError ca s.datas[i] == 0) = false := by simpa using hz
      generalize s.datas[i] = a at *
      unfold fn12_l0
      simp -implicitDefEqProofs only [code_skip, code_ops, code_seq, code_cond, code_block, code_ret, ops_cons, ops_nil, aOp, opd, upd_at, upd_none, kt_cons, stepVal, stepHeap, aBin, aInt, aIndexList, isShift, aStore, readAt, leaf, acells_agg, cellsSet, gcE, gc_mk, gcIds_mk, newIds_nil, newIds_cons, gcMap_at, posOf, ren, renC, renO_box, idsV, idsC, idsO_box, wipe_agg, wipeC_list, wipeC_int, wipeC_str, isData_list_none, isData_int, isData_str, isData_agg, isData_ptr, isDataL_nil, isDataL_cons, Option.map_some, List.map_cons, List.map_nil, List.flatMap_cons, List.flatMap_nil, List.length_cons, List.length_nil, List.cons_append, List.nil_append, List.append_nil, List.getElem?_cons_zero, List.getElem?_cons_succ, List.set_cons_zero, List.set_cons_succ, List.take_succ_cons, List.take_zero, List.drop_succ_cons, List.drop_zero, List.take_nil, List.drop_nil, List.all_cons, List.all_nil, List.not_mem_nil, ↓reduceIte, Bool.and_true, Bool.not_false, Bool.false_eq_true, and_true, not_false_eq_true, decide_true, and_self, Nat.le_refl, Nat.zero_add, Nat.reduceEqDiff, Nat.reduceAdd, Nat.reduceLT, Nat.reduceLeDiff, Int.toNat_natCast, Int.natCast_nonneg, ne_eq, roundF_eq, kt_nil, onlyVal, encData_eq, data_Cons, data_Datas, data_Vals, h1, h2, h3, ih1, hz, hz', doCall_p L hp, hp, bne, ne_eq, not_false_eq_true]
  · rw [List.length_range]
    have h0 : ¬ ((s.datas.length : Int) < s.datas.length) := by omega
    unfold fn12_l0
    simp -implicitDefEqProofs only [code_ops, code_seq, code_cond, code_exit, ops_cons, ops_nil, aOp, opd, upd_at, kt_cons, stepVal, aBin, aInt, isShift, gcE, gc_mk, gcIds_mk, newIds_nil, newIds_cons, gcMap_at, posOf, ren, renC, renO_box, idsV, idsC, idsO_box, isData_list_none, isData_ptr, isData_junk, List.map_cons, List.map_nil, List.flatMap_cons, List.flatMap_nil, List.length_cons, List.length_nil, List.append_nil, List.take_succ_cons, List.take_nil, List.not_mem_nil, ↓reduceIte, Bool.false_eq_true, and_true, not_false_eq_true, decide_false, Nat.le_refl, Nat.zero_add, Nat.reduceEqDiff, Nat.reduceLT, Nat.reduceLeDiff, roundF_eq, kt_nil, data_Datas, data_Vals, h0]

end Go.Abs
