/-
  What types answers. Conditions: none.
-/
import Derived.Test.YtlielgleabghlaaDoorSigM

set_option linter.unusedVariables false
set_option linter.unusedSimpArgs false
set_option maxRecDepth 100000
set_option maxHeartbeats 4000000
namespace Go.Abs

def typeErrAt (l : List DataSig) (d : DataSig) : Int :=
  if (find l d.name).2 = false then 6 else if (find l d.name).1.params ≠ d.params then 9 else if 0 < d.cons.length ∧ eqF sameCon (find l d.name).1.cons d.cons = false then 10 else 0

theorem find_mem {l : List DataSig} {s : ByteArray} (h : (find l s).2 = true) : (find l s).1 ∈ l := by
  unfold find at h ⊢
  split at h
  · rename_i hb
    rw [if_pos hb]
    have hlt := bfound_lt hb
    dsimp only
    rw [List.getElem?_eq_getElem hlt]
    exact List.getElem_mem hlt
  · cases h

def types_C (I S : SigSpec) (name : ByteArray) (ds : List DataSig) (outs : List SigMap) (i : Nat) : St :=
  ⟨kt [2, 3, 8, 14, 15, 16] [.str name, .ptr (some (0, 0)), .list (outs.map encMap) (ownAt 2 i), .list (ds.map encData) none, .int .i64 ds.length, .int .i64 i],
   .box [.list (I.datas.map encData) none, .list (I.vals.map encVal) none] :: .box [.list (S.datas.map encData) none, .list (S.vals.map encVal) none] :: tailAt 5 i⟩

theorem types_l0 {L : Lib} {ca : ByteArray → ByteArray → Bool} (hL : Plain L) (hP : Prims L ca) (h68 : L.fns 68 = some fn68) (h67 : L.fns 67 = some fn67) (h49 : L.fns 49 = some fn49) (h53 : L.fns 53 = some fn53) (h51 : L.fns 51 = some fn51) (h52 : L.fns 52 = some fn52) (h71 : L.fns 71 = some fn71) (h70 : L.fns 70 = some fn70)
    (I S : SigSpec) (hI : I.datas.length < 2 ^ 30) (hId : ∀ d ∈ I.datas, FitData d) (name : ByteArray) (hnm : name.size ≤ 2 ^ 40) (ds : List DataSig) (hl : ds.length < 2 ^ 30) (hd : ∀ d ∈ ds, d.name.size ≤ 2 ^ 40 ∧ d.params < 2 ^ 30) :
    (firstErr (ds.map (typeErrAt I.datas)) = 0 ∧ loopF L.pure (call L) 2 [2, 3, 8, 14, 15, 16] [6, 7, 8] 0 fn30_l0 (types_C I S name ds [] 0) =
        some (.normal, ⟨kt [6, 7, 8] [.junk, .junk, .list ((ds.map (mapOf name)).map encMap) (ownAt 2 ds.length)], (types_C I S name ds [] ds.length).h⟩)) ∨
      (firstErr (ds.map (typeErrAt I.datas)) ≠ 0 ∧ ∃ (outs : List SigMap) (i : Nat), loopF L.pure (call L) 2 [2, 3, 8, 14, 15, 16] [6, 7, 8] 0 fn30_l0 (types_C I S name ds [] 0) =
        some (.ret, ⟨kt [6, 7, 8] [.list [] (some none), .int .i64 (firstErr (ds.map (typeErrAt I.datas))), .list (outs.map encMap) (ownAt 2 i)], (types_C I S name ds [] i).h⟩)) := by
  have hp := hL.pure
  have hfind := find_ok hL hP h68 h67 h49 I.datas hI
  refine loopF_appendErr ds (typeErrAt I.datas) (mapOf name) (types_C I S name ds) _ (fun e outs i => ⟨kt [6, 7, 8] [.list [] (some none), .int .i64 e, .list (outs.map encMap) (ownAt 2 i)], (types_C I S name ds [] i).h⟩) ?_ ?_ ?_
  · intro i hi outs hlen he
    obtain ⟨h1, h2, h3⟩ := round_facts encData ds hl i hi
    have hm : i + 1 ≤ 1073741824 := by omega
    have ih1 := variables_ok hL h53 ds[i].params (hd _ (List.getElem_mem hi)).2
    obtain ⟨hs1, hs2⟩ := sizes_ok hnm (hd _ (List.getElem_mem hi)).1
    have hfi := hfind ds[i].name
    unfold typeErrAt at he
    have heq : (find I.datas ds[i].name).2 = true → ∀ h : Heap, pcall L 51 [.list ((find I.datas ds[i].name).1.cons.map encCon) none, .list (ds[i].cons.map encCon) none, .func 52 [] []] h = some (.val (.bool (eqF sameCon (find I.datas ds[i].name).1.cons ds[i].cons)), h) := fun hx h =>
      eqf51 hL h51 52 sameCon _ _ (hId _ (find_mem hx)).1 (fun a ha b _ h => sameCon_ok hL h71 h70 h52 a b ((hId _ (find_mem hx)).2.2 a ha) h) h
    unfold types_C
    generalize find I.datas ds[i].name = fd at *
    generalize ds[i] = a at *
    obtain ⟨x, is⟩ := fd
    dsimp only at *
    cases is with
    | false => simp at he
    | true =>
      have heq := heq rfl
      by_cases hpar : x.params = a.params
      · have hpar' : (x.params != a.params) = false := by simpa using hpar
        have hc : ¬ (0 < a.cons.length ∧ eqF sameCon x.cons a.cons = false) := by
          intro hc
          simp [hpar, hc] at he
        by_cases hz : (a.cons.length : Int) > 0
        · have heqt : eqF sameCon x.cons a.cons = true := by
            cases hq : eqF sameCon x.cons a.cons with
            | true => rfl
            | false => exact absurd ⟨by omega, hq⟩ hc
          cases i with
          | zero =>
            obtain rfl := List.eq_nil_of_length_eq_zero hlen
            have h1 : (0 : Int) < ds.length := by omega
            have h2 : IntKind.i64.wrap 1 = 1 := by decide
            unfold fn30_l0 mapOf
            simp -implicitDefEqProofs only [code_skip, code_ops, code_draw, code_seq, code_cond, code_block, ops_cons, ops_cons_g, ops_nil, aOp, opd, upd_at, upd_none, kt_cons, stepVal, stepHeap, aBin, aStr, aLen, aInt, aUn, aIndexList, isShift, aWanted, aLoad1, aStore, readAt, aField, fillA, known, leaf, acells_agg, acells_int, acells_str, acells_list, cellsSet, gc_mk, gcIds_mk, newIds_nil, newIds_cons, gcMap_at, posOf, ren, renC, renO_box, renO_tail, idsV, idsC, idsO_box, draw_eq, opsH_nil, opsH_cons, isLoud, aAppend, wipe_agg, wipe_list, wipe_int, wipe_str, wipe_func, wipeC_list, wipeC_int, wipeC_str, isData_list_none, isData_list_tail, isData_int, isData_str, isData_agg, isData_func, isData_ptr, isDataL_nil, isDataL_cons, beq_self_eq_true, Option.map_some, Option.getD_some, List.map_cons, List.map_nil, List.flatMap_cons, List.flatMap_nil, List.length_cons, List.length_nil, List.length_map, List.cons_append, List.nil_append, List.append_nil, List.getElem?_cons_zero, List.getElem?_cons_succ, List.set_cons_zero, List.set_cons_succ, List.take_succ_cons, List.take_zero, List.drop_succ_cons, List.drop_zero, List.take_nil, List.drop_nil, List.all_cons, List.all_nil, List.not_mem_nil, ↓reduceIte, Bool.and_true, Bool.not_true, Bool.false_eq_true, and_true, not_false_eq_true, decide_true, and_self, Nat.le_refl, Nat.add_zero, Nat.zero_add, Nat.reduceEqDiff, Nat.reduceAdd, Nat.reduceLT, Nat.reduceLeDiff, Int.reduceToNat, Int.reduceLE, List.cons_ne_nil, roundF_eq, maxLen_eq, checksP_nil, drawTo_if, Int.reduceAdd, kt_nil, Int.cast_ofNat_Int, gt_iff_lt, onlyVal, encData_eq, encMap_eq, data_Tys, data_Cons, data_Datas, data_Vals, Ty.kind_mk, Ty.name_mk, Ty.var_mk, Ty.args_mk, ownAt_zero, ownAt_succ, tailAt_zero, tailAt_succ, h1, h2, h3, hfi, hpar', hz, heq, heqt, ih1, hs1, hs2, doCall_p L hp, hp]
          | succ j =>
            unfold fn30_l0 mapOf
            simp -implicitDefEqProofs only [code_skip, code_ops, code_draw, code_seq, code_cond, code_block, ops_cons, ops_cons_g, ops_nil, aOp, opd, upd_at, upd_none, kt_cons, stepVal, stepHeap, aBin, aStr, aLen, aInt, aUn, aIndexList, isShift, aWanted, aLoad1, aStore, readAt, aField, fillA, known, leaf, acells_agg, acells_int, acells_str, acells_list, cellsSet, gc_mk, gcIds_mk, newIds_nil, newIds_cons, gcMap_at, posOf, ren, renC, renO_box, renO_tail, idsV, idsC, idsO_box, draw_eq, opsH_nil, opsH_cons, isLoud, aAppend, wipe_agg, wipe_list, wipe_int, wipe_str, wipe_func, wipeC_list, wipeC_int, wipeC_str, isData_list_none, isData_list_tail, isData_int, isData_str, isData_agg, isData_func, isData_ptr, isDataL_nil, isDataL_cons, isDataL_append, beq_self_eq_true, Option.map_some, Option.getD_some, List.map_cons, List.map_nil, List.flatMap_cons, List.flatMap_nil, List.length_cons, List.length_nil, List.length_map, List.cons_append, List.nil_append, List.append_nil, List.getElem?_cons_zero, List.getElem?_cons_succ, List.set_cons_zero, List.set_cons_succ, List.take_succ_cons, List.take_zero, List.drop_succ_cons, List.drop_zero, List.take_nil, List.drop_nil, List.all_cons, List.all_nil, List.not_mem_nil, ↓reduceIte, Bool.and_true, Bool.not_true, Bool.false_eq_true, and_true, not_false_eq_true, decide_true, and_self, Nat.le_refl, Nat.add_zero, Nat.zero_add, Nat.reduceEqDiff, Nat.reduceAdd, Nat.reduceLT, Nat.reduceLeDiff, Int.toNat_natCast, Int.natCast_nonneg, List.cons_ne_nil, roundF_eq, maxLen_eq, checksP_nil, drawTo_if, List.map_append, kt_nil, gt_iff_lt, onlyVal, encData_eq, encMap_eq, data_Tys, data_Cons, data_Datas, data_Vals, data_Maps, all_Maps, Ty.kind_mk, Ty.name_mk, Ty.var_mk, Ty.args_mk, ownAt_succ, tailAt_succ, h1, h2, h3, hm, hlen, hfi, hpar', hz, heq, heqt, ih1, hs1, hs2, doCall_p L hp, hp]
        · cases i with
          | zero =>
            obtain rfl := List.eq_nil_of_length_eq_zero hlen
            have h1 : (0 : Int) < ds.length := by omega
            have h2 : IntKind.i64.wrap 1 = 1 := by decide
            unfold fn30_l0 mapOf
            simp -implicitDefEqProofs only [code_skip, code_ops, code_draw, code_seq, code_cond, code_block, ops_cons, ops_cons_g, ops_nil, aOp, opd, upd_at, upd_none, kt_cons, stepVal, stepHeap, aBin, aStr, aLen, aInt, aUn, aIndexList, isShift, aWanted, aLoad1, aStore, readAt, aField, fillA, known, leaf, acells_agg, acells_int, acells_str, acells_list, cellsSet, gc_mk, gcIds_mk, newIds_nil, newIds_cons, gcMap_at, posOf, ren, renC, renO_box, renO_tail, idsV, idsC, idsO_box, draw_eq, opsH_nil, opsH_cons, isLoud, aAppend, wipe_agg, wipe_list, wipe_int, wipe_str, wipeC_list, wipeC_int, wipeC_str, isData_list_none, isData_list_tail, isData_int, isData_str, isData_agg, isData_ptr, isDataL_nil, isDataL_cons, beqFT, Option.map_some, Option.getD_some, List.map_cons, List.map_nil, List.flatMap_cons, List.flatMap_nil, List.length_cons, List.length_nil, List.length_map, List.cons_append, List.nil_append, List.append_nil, List.getElem?_cons_zero, List.getElem?_cons_succ, List.set_cons_zero, List.set_cons_succ, List.take_succ_cons, List.take_zero, List.drop_succ_cons, List.drop_zero, List.take_nil, List.drop_nil, List.all_cons, List.all_nil, List.not_mem_nil, ↓reduceIte, Bool.and_true, Bool.not_true, Bool.false_eq_true, and_true, not_false_eq_true, decide_true, decide_false, and_self, Nat.le_refl, Nat.add_zero, Nat.zero_add, Nat.reduceEqDiff, Nat.reduceAdd, Nat.reduceLT, Nat.reduceLeDiff, Int.reduceToNat, Int.reduceLE, List.cons_ne_nil, roundF_eq, maxLen_eq, checksP_nil, drawTo_if, Int.reduceAdd, kt_nil, Int.cast_ofNat_Int, gt_iff_lt, onlyVal, encData_eq, encMap_eq, data_Tys, data_Datas, data_Vals, Ty.kind_mk, Ty.name_mk, Ty.var_mk, Ty.args_mk, ownAt_zero, ownAt_succ, tailAt_zero, tailAt_succ, h1, h2, h3, hfi, hpar', hz, ih1, hs1, hs2, doCall_p L hp, hp]
          | succ j =>
            unfold fn30_l0 mapOf
            simp -implicitDefEqProofs only [code_skip, code_ops, code_draw, code_seq, code_cond, code_block, ops_cons, ops_cons_g, ops_nil, aOp, opd, upd_at, upd_none, kt_cons, stepVal, stepHeap, aBin, aStr, aLen, aInt, aUn, aIndexList, isShift, aWanted, aLoad1, aStore, readAt, aField, fillA, known, leaf, acells_agg, acells_int, acells_str, acells_list, cellsSet, gc_mk, gcIds_mk, newIds_nil, newIds_cons, gcMap_at, posOf, ren, renC, renO_box, renO_tail, idsV, idsC, idsO_box, draw_eq, opsH_nil, opsH_cons, isLoud, aAppend, wipe_agg, wipe_list, wipe_int, wipe_str, wipeC_list, wipeC_int, wipeC_str, isData_list_none, isData_list_tail, isData_int, isData_str, isData_agg, isData_ptr, isDataL_nil, isDataL_cons, isDataL_append, beqFT, Option.map_some, Option.getD_some, List.map_cons, List.map_nil, List.flatMap_cons, List.flatMap_nil, List.length_cons, List.length_nil, List.length_map, List.cons_append, List.nil_append, List.append_nil, List.getElem?_cons_zero, List.getElem?_cons_succ, List.set_cons_zero, List.set_cons_succ, List.take_succ_cons, List.take_zero, List.drop_succ_cons, List.drop_zero, List.take_nil, List.drop_nil, List.all_cons, List.all_nil, List.not_mem_nil, ↓reduceIte, Bool.and_true, Bool.not_true, Bool.false_eq_true, and_true, not_false_eq_true, decide_true, decide_false, and_self, Nat.le_refl, Nat.add_zero, Nat.zero_add, Nat.reduceEqDiff, Nat.reduceAdd, Nat.reduceLT, Nat.reduceLeDiff, Int.toNat_natCast, Int.natCast_nonneg, List.cons_ne_nil, roundF_eq, maxLen_eq, checksP_nil, drawTo_if, List.map_append, kt_nil, gt_iff_lt, onlyVal, encData_eq, encMap_eq, data_Tys, data_Datas, data_Vals, data_Maps, all_Maps, Ty.kind_mk, Ty.name_mk, Ty.var_mk, Ty.args_mk, ownAt_succ, tailAt_succ, h1, h2, h3, hm, hlen, hfi, hpar', hz, ih1, hs1, hs2, doCall_p L hp, hp]
      · simp [hpar] at he
  · intro i hi outs hlen he
    obtain ⟨h1, h2, h3⟩ := round_facts encData ds hl i hi
    have hfi := hfind ds[i].name
    have heq : (find I.datas ds[i].name).2 = true → ∀ h : Heap, pcall L 51 [.list ((find I.datas ds[i].name).1.cons.map encCon) none, .list (ds[i].cons.map encCon) none, .func 52 [] []] h = some (.val (.bool (eqF sameCon (find I.datas ds[i].name).1.cons ds[i].cons)), h) := fun hx h =>
      eqf51 hL h51 52 sameCon _ _ (hId _ (find_mem hx)).1 (fun a ha b _ h => sameCon_ok hL h71 h70 h52 a b ((hId _ (find_mem hx)).2.2 a ha) h) h
    unfold typeErrAt at he ⊢
    unfold types_C
    generalize find I.datas ds[i].name = fd at *
    generalize ds[i] = a at *
    obtain ⟨x, is⟩ := fd
    dsimp only at *
    cases is with
    | false =>
      rcases own_cases 2 5 i with ⟨g1, g2⟩ | ⟨g1, g2⟩ <;> (unfold fn30_l0; simp -implicitDefEqProofs only [code_skip, code_ops, code_seq, code_cond, code_block, code_ret, ops_cons, ops_nil, aOp, opd, upd_at, upd_none, kt_cons, stepVal, stepHeap, aBin, aInt, aUn, aIndexList, isShift, aLoad1, aStore, readAt, aField, leaf, acells_agg, cellsSet, gcE, gc_mk, gcIds_mk, newIds_nil, newIds_cons, gcMap_at, posOf, ren, renC, renO_box, renO_tail, idsV, idsC, idsO_box, wipe_list, wipe_str, isData_list_none, isData_list_full, isData_list_tail, isData_int, isData_str, isDataL_nil, isDataL_cons, Option.map_some, Option.getD_some, List.map_cons, List.map_nil, List.flatMap_cons, List.flatMap_nil, List.length_cons, List.length_nil, List.cons_append, List.nil_append, List.append_nil, List.getElem?_cons_zero, List.getElem?_cons_succ, List.set_cons_zero, List.set_cons_succ, List.take_succ_cons, List.take_zero, List.drop_succ_cons, List.drop_zero, List.take_nil, List.drop_nil, List.all_cons, List.all_nil, List.not_mem_nil, ↓reduceIte, Bool.and_true, Bool.not_false, Bool.false_eq_true, not_false_eq_true, decide_true, and_self, Nat.le_refl, Nat.add_zero, Nat.zero_add, Nat.reduceEqDiff, Nat.reduceAdd, Nat.reduceLT, Nat.reduceLeDiff, Int.toNat_natCast, Int.natCast_nonneg, roundF_eq, kt_nil, onlyVal, encData_eq, data_Datas, data_Vals, data_Maps, h1, h2, h3, hfi, g1, g2, doCall_p L hp, hp])
    | true =>
      have heq := heq rfl
      by_cases hpar : x.params = a.params
      · have hpar' : (x.params != a.params) = false := by simpa using hpar
        have hpar2 := eq_true hpar
        by_cases hz : 0 < a.cons.length
        · have hz' : (a.cons.length : Int) > 0 := by omega
          cases heqt : eqF sameCon x.cons a.cons with
          | true => simp [hpar, heqt] at he
          | false =>
            rcases own_cases 2 5 i with ⟨g1, g2⟩ | ⟨g1, g2⟩ <;> (unfold fn30_l0; simp -implicitDefEqProofs only [code_skip, code_ops, code_seq, code_cond, code_block, code_ret, ops_cons, ops_cons_g, ops_nil, aOp, opd, upd_at, upd_none, kt_cons, stepVal, stepHeap, aBin, aLen, aInt, aUn, aIndexList, isShift, aWanted, aLoad1, aStore, readAt, aField, leaf, acells_agg, cellsSet, gcE, gc_mk, gcIds_mk, newIds_nil, newIds_cons, gcMap_at, posOf, ren, renC, renO_box, renO_tail, idsV, idsC, idsO_box, wipe_list, wipe_str, wipe_func, isData_list_none, isData_list_full, isData_list_tail, isData_int, isData_str, isData_func, isDataL_nil, isDataL_cons, beq_self_eq_true, Option.map_some, Option.getD_some, List.map_cons, List.map_nil, List.flatMap_cons, List.flatMap_nil, List.length_cons, List.length_nil, List.length_map, List.cons_append, List.nil_append, List.append_nil, List.getElem?_cons_zero, List.getElem?_cons_succ, List.set_cons_zero, List.set_cons_succ, List.take_succ_cons, List.take_zero, List.drop_succ_cons, List.drop_zero, List.take_nil, List.drop_nil, List.all_cons, List.all_nil, List.not_mem_nil, ↓reduceIte, Bool.and_true, Bool.not_true, Bool.not_false, Bool.false_eq_true, Bool.true_eq_false, not_true_eq_false, not_false_eq_true, decide_true, and_self, Nat.le_refl, Nat.add_zero, Nat.zero_add, Nat.reduceEqDiff, Nat.reduceAdd, Nat.reduceLT, Nat.reduceLeDiff, Int.toNat_natCast, Int.natCast_nonneg, ne_eq, roundF_eq, kt_nil, gt_iff_lt, onlyVal, encData_eq, data_Cons, data_Datas, data_Vals, data_Maps, h1, h2, h3, hfi, hpar', hpar2, hz, hz', heq, heqt, g1, g2, doCall_p L hp, hp, ne_eq, not_true_eq_false])
        · simp [hpar, hz] at he
      · have hpar' : (x.params != a.params) = true := by simpa using hpar
        rcases own_cases 2 5 i with ⟨g1, g2⟩ | ⟨g1, g2⟩ <;> (unfold fn30_l0; simp -implicitDefEqProofs only [code_skip, code_ops, code_seq, code_cond, code_block, code_ret, ops_cons, ops_nil, aOp, opd, upd_at, upd_none, kt_cons, stepVal, stepHeap, aBin, aInt, aUn, aIndexList, isShift, aLoad1, aStore, readAt, aField, leaf, acells_agg, cellsSet, gcE, gc_mk, gcIds_mk, newIds_nil, newIds_cons, gcMap_at, posOf, ren, renC, renO_box, renO_tail, idsV, idsC, idsO_box, wipe_list, wipe_str, isData_list_none, isData_list_full, isData_list_tail, isData_int, isData_str, isDataL_nil, isDataL_cons, Option.map_some, Option.getD_some, List.map_cons, List.map_nil, List.flatMap_cons, List.flatMap_nil, List.length_cons, List.length_nil, List.cons_append, List.nil_append, List.append_nil, List.getElem?_cons_zero, List.getElem?_cons_succ, List.set_cons_zero, List.set_cons_succ, List.take_succ_cons, List.take_zero, List.drop_succ_cons, List.drop_zero, List.take_nil, List.drop_nil, List.all_cons, List.all_nil, List.not_mem_nil, ↓reduceIte, Bool.and_true, Bool.not_true, Bool.false_eq_true, Bool.true_eq_false, not_false_eq_true, decide_true, and_self, Nat.le_refl, Nat.add_zero, Nat.zero_add, Nat.reduceEqDiff, Nat.reduceAdd, Nat.reduceLT, Nat.reduceLeDiff, Int.toNat_natCast, Int.natCast_nonneg, ne_eq, roundF_eq, kt_nil, onlyVal, encData_eq, data_Datas, data_Vals, data_Maps, h1, h2, h3, hfi, hpar, hpar', g1, g2, doCall_p L hp, hp, ne_eq, not_false_eq_true])
  · have h0 : ¬ ((ds.length : Int) < ds.length) := by omega
    unfold fn30_l0 types_C
    rcases own_cases 2 5 ds.length with ⟨g1, g2⟩ | ⟨g1, g2⟩ <;> simp -implicitDefEqProofs only [code_ops, code_seq, code_cond, code_exit, ops_cons, ops_nil, aOp, opd, upd_at, kt_cons, stepVal, aBin, aInt, isShift, gcE, gc_mk, gcIds_mk, newIds_nil, newIds_cons, gcMap_at, posOf, ren, renC, renO_box, renO_tail, idsV, idsC, idsO_box, isData_list_none, isData_list_full, isData_list_tail, isData_junk, Option.getD_some, List.map_cons, List.map_nil, List.flatMap_cons, List.flatMap_nil, List.length_cons, List.length_nil, List.cons_append, List.nil_append, List.append_nil, List.getElem?_cons_zero, List.getElem?_cons_succ, List.take_succ_cons, List.take_zero, List.take_nil, List.not_mem_nil, ↓reduceIte, Bool.false_eq_true, not_false_eq_true, decide_false, and_self, Nat.le_refl, Nat.zero_add, Nat.reduceEqDiff, Nat.reduceAdd, Nat.reduceLT, Nat.reduceLeDiff, roundF_eq, kt_nil, data_Datas, data_Vals, data_Maps, h0, g1, g2]

def typesR (I S : SigSpec) (name : ByteArray) : List SigMap × Int :=
  if firstErr (S.datas.map (typeErrAt I.datas)) = 0 then (S.datas.map (mapOf name), 0) else ([], firstErr (S.datas.map (typeErrAt I.datas)))
theorem types_ok {L : Lib} {ca : ByteArray → ByteArray → Bool} (hL : Plain L) (hP : Prims L ca) (h68 : L.fns 68 = some fn68) (h67 : L.fns 67 = some fn67) (h49 : L.fns 49 = some fn49) (h53 : L.fns 53 = some fn53) (h51 : L.fns 51 = some fn51) (h52 : L.fns 52 = some fn52) (h71 : L.fns 71 = some fn71) (h70 : L.fns 70 = some fn70) (hf : L.fns 30 = some fn30)
    (I S : SigSpec) (hI : I.datas.length < 2 ^ 30) (hId : ∀ d ∈ I.datas, FitData d) (name : ByteArray) (hnm : name.size ≤ 2 ^ 40) (hl : S.datas.length < 2 ^ 30) (hd : ∀ d ∈ S.datas, d.name.size ≤ 2 ^ 40 ∧ d.params < 2 ^ 30) (h : Heap) :
    pcall L 30 [.agg [.list (I.datas.map encData) none, .list (I.vals.map encVal) none], .agg [.list (S.datas.map encData) none, .list (S.vals.map encVal) none], .str name] h =
      some (.val (.tuple [.list ((typesR I S name).1.map encMap) none, .int .i64 (typesR I S name).2]), h) := by
  have hloop := types_l0 hL hP h68 h67 h49 h53 h51 h52 h71 h70 I S hI hId name hnm S.datas hl hd
  unfold types_C at hloop
  simp only [Int.natCast_zero, ownAt_zero, tailAt_zero, List.map_nil] at hloop
  refine pcall_fn hL hf (by simp -implicitDefEqProofs only [isData_list_none, isData_int, isData_tuple, isDataL_nil, isDataL_cons, Bool.and_true, data_Maps]) ?_ h
  unfold fn30 typesR
  rcases hloop with ⟨he, hloop⟩ | ⟨he, outs, i, hloop⟩
  · rcases own_cases 2 5 S.datas.length with ⟨h1, h2⟩ | ⟨h1, h2⟩ <;> simp -implicitDefEqProofs only [code_ops, code_seq, code_ret, ops_cons, ops_nil, aOp, opd, upd_at, initTm_at, kt_cons, stepVal, aLen, aLoad1, aField, acells_agg, endFn, aResults, aResult, tupled, code_loopF, gc_mk, gcIds_mk, newIds_nil, newIds_cons, gcMap_at, posOf, ren, renC, renO_box, idsV, idsC, idsO_box, wipe_list, wipe_int, wipeR_tuple, isData_list_none, isData_list_full, isData_int, isData_str, isData_ptr, isDataL_nil, Option.getD_some, List.map_cons, List.map_nil, List.flatMap_cons, List.flatMap_nil, List.length_cons, List.length_nil, List.length_map, List.cons_append, List.nil_append, List.append_nil, List.getElem?_cons_zero, List.getElem?_cons_succ, List.take_succ_cons, List.take_nil, List.not_mem_nil, ↓reduceIte, Bool.false_eq_true, and_true, not_false_eq_true, Nat.le_refl, Nat.add_zero, Nat.zero_add, Nat.reduceEqDiff, Nat.reduceAdd, Nat.reduceLT, Nat.reduceLeDiff, data_Datas, data_Vals, outOf_val, hloop, he, h1, h2]
  · rcases own_cases 2 5 i with ⟨h1, h2⟩ | ⟨h1, h2⟩ <;> simp -implicitDefEqProofs only [code_ops, code_seq, ops_cons, ops_nil, aOp, opd, upd_at, initTm_at, kt_cons, stepVal, aLen, aLoad1, aField, acells_agg, endFn, aResults, aResult, tupled, code_loopF, gc_mk, gcIds_mk, newIds_nil, newIds_cons, gcMap_at, posOf, ren, renC, renO_box, idsV, idsC, idsO_box, wipe_list, wipe_int, wipeR_tuple, isData_list_none, isData_list_full, isData_int, isData_str, isData_ptr, isDataL_nil, Option.getD_some, List.map_cons, List.map_nil, List.flatMap_cons, List.flatMap_nil, List.length_cons, List.length_nil, List.length_map, List.cons_append, List.nil_append, List.append_nil, List.getElem?_cons_zero, List.getElem?_cons_succ, List.take_succ_cons, List.take_nil, List.not_mem_nil, ↓reduceIte, Bool.false_eq_true, and_true, not_false_eq_true, Nat.le_refl, Nat.add_zero, Nat.zero_add, Nat.reduceEqDiff, Nat.reduceAdd, Nat.reduceLT, Nat.reduceLeDiff, data_Datas, data_Vals, outOf_val, hloop, he, h1, h2]

/-- The same call, with what it keeps. -/
theorem types_k {L : Lib} {ca : ByteArray → ByteArray → Bool} (hL : Plain L) (hP : Prims L ca) (h68 : L.fns 68 = some fn68) (h67 : L.fns 67 = some fn67) (h49 : L.fns 49 = some fn49) (h53 : L.fns 53 = some fn53) (h51 : L.fns 51 = some fn51) (h52 : L.fns 52 = some fn52) (h71 : L.fns 71 = some fn71) (h70 : L.fns 70 = some fn70) (hf : L.fns 30 = some fn30)
    (I S : SigSpec) (hI : I.datas.length < 2 ^ 30) (hId : ∀ d ∈ I.datas, FitData d) (name : ByteArray) (hnm : name.size ≤ 2 ^ 40) (hl : S.datas.length < 2 ^ 30) (hd : ∀ d ∈ S.datas, d.name.size ≤ 2 ^ 40 ∧ d.params < 2 ^ 30) (h : Heap) :
    kCall (call L) 30 [.agg [.list (I.datas.map encData) none, .list (I.vals.map encVal) none], .agg [.list (S.datas.map encData) none, .list (S.vals.map encVal) none], .str name] h =
      some (.val (.tuple [.list ((typesR I S name).1.map encMap) (ownAt h.length (typesR I S name).1.length), .int .i64 (typesR I S name).2]), h ++ tailAt 5 (typesR I S name).1.length) := by
  have hloop := types_l0 hL hP h68 h67 h49 h53 h51 h52 h71 h70 I S hI hId name hnm S.datas hl hd
  unfold types_C at hloop
  simp only [Int.natCast_zero, ownAt_zero, tailAt_zero, List.map_nil] at hloop
  refine kCall_fn hL hf (by simp -implicitDefEqProofs only [wipe_agg, wipe_str, wipeC_list, isData_list_none, isData_str, isData_agg, isDataL_nil, isDataL_cons, List.map_cons, List.map_nil, Bool.and_true, data_Datas, data_Vals]) (data_Maps _) ?_ h
  unfold fn30 typesR
  rcases hloop with ⟨he, hloop⟩ | ⟨he, outs, i, hloop⟩
  · rcases own_cases 2 5 S.datas.length with ⟨h1, h2⟩ | ⟨h1, h2⟩ <;> simp -implicitDefEqProofs only [code_ops, code_seq, code_ret, ops_cons, ops_nil, aOp, opd, upd_at, initTm_at, kt_cons, stepVal, aLen, aLoad1, aField, acells_agg, endFn, aResults, aResult, tupled, code_loopF, gc_mk, gcIds_mk, newIds_nil, newIds_cons, gcMap_at, posOf, ren, renC, renO_box, idsV, idsC, idsO_box, wipe_agg, wipe_str, wipeC_list, isData_list_none, isData_list_full, isData_int, isData_str, isData_ptr, isDataL_nil, Option.getD_some, List.map_cons, List.map_nil, List.flatMap_cons, List.flatMap_nil, List.length_cons, List.length_nil, List.length_map, List.cons_append, List.nil_append, List.append_nil, List.getElem?_cons_zero, List.getElem?_cons_succ, List.take_succ_cons, List.take_nil, List.not_mem_nil, ↓reduceIte, Bool.false_eq_true, and_true, not_false_eq_true, Nat.le_refl, Nat.add_zero, Nat.zero_add, Nat.reduceEqDiff, Nat.reduceAdd, Nat.reduceLT, Nat.reduceLeDiff, data_Datas, data_Vals, keepOf_full, keepOf_tail, hloop, he, h1, h2]
  · rcases own_cases 2 5 i with ⟨h1, h2⟩ | ⟨h1, h2⟩ <;> simp -implicitDefEqProofs only [code_ops, code_seq, ops_cons, ops_nil, aOp, opd, upd_at, initTm_at, kt_cons, stepVal, aLen, aLoad1, aField, acells_agg, endFn, aResults, aResult, tupled, code_loopF, gc_mk, gcIds_mk, newIds_nil, newIds_cons, gcMap_at, posOf, ren, renC, renO_box, idsV, idsC, idsO_box, wipe_agg, wipe_str, wipeC_list, isData_list_none, isData_list_full, isData_int, isData_str, isData_ptr, isDataL_nil, Option.getD_some, List.map_cons, List.map_nil, List.flatMap_cons, List.flatMap_nil, List.length_cons, List.length_nil, List.length_map, List.cons_append, List.nil_append, List.append_nil, List.getElem?_cons_zero, List.getElem?_cons_succ, List.take_succ_cons, List.take_nil, List.not_mem_nil, ↓reduceIte, Bool.false_eq_true, and_true, not_false_eq_true, Nat.le_refl, Nat.add_zero, Nat.zero_add, Nat.reduceEqDiff, Nat.reduceAdd, Nat.reduceLT, Nat.reduceLeDiff, data_Datas, data_Vals, tailAt_zero, keepOf_full, hloop, he, h1, h2]

end Go.Abs
