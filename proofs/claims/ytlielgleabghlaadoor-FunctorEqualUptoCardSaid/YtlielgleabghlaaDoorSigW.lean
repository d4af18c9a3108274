/-
  What general answers. Conditions: none.
-/
import Derived.Test.YtlielgleabghlaaDoorSigV

set_option linter.unusedVariables false
set_option linter.unusedSimpArgs false
set_option maxRecDepth 100000
set_option maxHeartbeats 4000000
namespace Go.Abs

theorem gen1_ok {L : Lib} (hL : Plain L) (h70 : L.fns 70 = some fn70) (h71 : L.fns 71 = some fn71) (h55 : L.fns 55 = some fn55) (h57 : L.fns 57 = some fn57) (p q : Pred) (hpf : TyFit p.type) (hqf : TyFit q.type) (m : Mt) (hm : MFit m) (hs : MSort m) :
    call L 57 [.agg (pCells q), .ptr (some (0, 0)), .vptr (pCells p) 0] [.box [.ptr (some (1, 0))], .box [.map (some 2)], .map (encM m)] = some (.val (.bool (trial m p q).1), [.box [.ptr (some (1, 0))], .box [.map (some 2)], .map (encM m)]) := by
  have hp := hL.pure
  refine call_of (hL.summ 57 (by rw [h57]; exact fun hx => by cases hx)) h57 ?_
  have hr := range57 hL h70 h71 h55 p q hpf hqf m hm hs
  unfold pCells at hr
  unfold fn57
  simp -implicitDefEqProofs only [code_ops, code_seq, ops_cons, ops_nil, aOp, opd, upd_at, initTm_at, kt_cons, stepVal, fillA, known, acells_agg, acells_map, cellsSet, endFn, aResults, aResult, tupled, gcE, gc_mk, gcIds_mk, newIds_nil, newIds_cons, gcMap_at, posOf, ren, renC, renO_box, idsV, idsC, idsO_box, isData_bool, isData_ptr, isData_map, Option.map_some, Option.getD_some, List.map_cons, List.map_nil, List.flatMap_cons, List.flatMap_nil, List.length_cons, List.length_nil, List.cons_append, List.nil_append, List.append_nil, List.getElem?_cons_zero, List.getElem?_cons_succ, List.take_succ_cons, List.take_zero, List.drop_succ_cons, List.drop_nil, List.not_mem_nil, ↓reduceIte, Bool.false_eq_true, and_true, not_false_eq_true, and_self, Nat.le_refl, Nat.zero_add, Nat.reduceEqDiff, Nat.reduceAdd, Nat.reduceLT, Nat.reduceLeDiff, kt_nil, code_frame_seq, ↓renO_encM, ↓idsO_encM, pCells_eq, hr]

theorem idx73 {L : Lib} (hL : Plain L) (h70 : L.fns 70 = some fn70) (h71 : L.fns 71 = some fn71) (h55 : L.fns 55 = some fn55) (h57 : L.fns 57 = some fn57) (hf : L.fns 73 = some fn73) (p : Pred) (qs : List Pred) (hl : qs.length < 2 ^ 30) (hpf : TyFit p.type) (hqf : ∀ q ∈ qs, TyFit q.type) (m : Mt) (hm : MFit m) (hs : MSort m) :
    call L 73 [.list (qs.map encPred) none, .func 57 [] [.ptr (some (0, 0)), .vptr (pCells p) 0]] [.box [.ptr (some (1, 0))], .box [.map (some 2)], .map (encM m)] = some (.val (.int .i64 (idxF (fun q => (trial m p q).1) qs)), [.box [.ptr (some (1, 0))], .box [.map (some 2)], .map (encM m)]) := by
  have hp := hL.pure
  refine call_of (hL.summ 73 (by rw [hf]; exact fun hx => by cases hx)) hf ?_
  have hg : ∀ q ∈ qs, _ := fun q hq => gen1_ok hL h70 h71 h55 h57 p q hpf (hqf q hq) m hm hs
  have hloop := loopF_find (pure := L.pure) (call := call L) (b := 3) (keep := [0, 1, 7, 8]) (fk := [4]) (id := 0) (body := fn73_l0) qs (fun i a => if (trial m p a).1 = true then some i else none)
    (fun i => ⟨kt [0, 1, 7, 8] [.list (qs.map encPred) none, .func 57 [] [.ptr (some (0, 0)), .vptr (pCells p) 0], .int .i64 qs.length, .int .i64 i], [.box [.ptr (some (1, 0))], .box [.map (some 2)], .map (encM m)]⟩) ⟨kt [4] [.junk], [.box [.ptr (some (1, 0))], .box [.map (some 2)], .map (encM m)]⟩
    (fun i => ⟨kt [4] [.int .i64 i], [.box [.ptr (some (1, 0))], .box [.map (some 2)], .map (encM m)]⟩)
    (by
      intro i hi hq
      obtain ⟨h1, h2, h3⟩ := round_facts' encPred qs hl i hi
      have h5 := hg qs[i] (List.getElem_mem hi)
      have h6 : (trial m p qs[i]).1 = false := by cases hx : (trial m p qs[i]).1 <;> simp [hx] at hq ⊢
      generalize qs[i] = a at *
      unfold pCells at h5 ⊢
      unfold fn73_l0
      simp -implicitDefEqProofs only [code_skip, code_ops, code_seq, code_cond, code_block, ops_cons, ops_nil, aOp, opd, upd_at, kt_cons, stepVal, aBin, aInt, aIndexList, isShift, readAt, acells_agg, gc_mk, gcIds_mk, newIds_nil, newIds_cons, gcMap_at, posOf, ren, renC, renO_box, idsV, idsC, idsO_box, wipe_agg, wipe_ptr, wipe_vptr, wipeC_list, wipeC_int, wipeC_str, isData_list_none, isData_bool, isData_int, isData_str, isData_agg, isData_func, isData_vptr, isData_ptr, isData_map, isDataL_nil, isDataL_cons, Option.map_some, Option.getD_some, List.map_cons, List.map_nil, List.flatMap_cons, List.flatMap_nil, List.length_cons, List.length_nil, List.cons_append, List.nil_append, List.append_nil, List.getElem?_cons_zero, List.getElem?_cons_succ, List.take_succ_cons, List.drop_zero, List.take_nil, List.all_cons, List.all_nil, List.mem_cons, List.not_mem_nil, ↓reduceIte, Bool.and_true, Bool.and_false, Bool.false_eq_true, and_true, and_false, or_true, or_false, not_true_eq_false, not_false_eq_true, decide_true, and_self, Nat.le_refl, Nat.zero_le, reduceCtorEq, Nat.zero_add, Nat.reduceEqDiff, Nat.reduceAdd, Nat.reduceLT, Nat.reduceLeDiff, Int.toNat_natCast, Int.natCast_nonneg, roundF_eq, kt_nil, rCall_eq, rootsOf_eq, grow_eq, subHeap_eq, putBack_eq, pb_nil, pb_cons, backRes_val, encPred_eq, data_Tys, data_Preds, ↓renO_encM, ↓idsO_encM, h1, h2, h3, h5, h6, reduceCtorEq, doCall_p L hp, hp])
    (by
      intro i hi r hq
      obtain ⟨h1, h2, h3⟩ := round_facts' encPred qs hl i hi
      have h5 := hg qs[i] (List.getElem_mem hi)
      have h6 : (trial m p qs[i]).1 = true := by cases hx : (trial m p qs[i]).1 <;> simp [hx] at hq ⊢
      have h7 : i = r := by simpa [h6] using hq
      subst h7
      generalize qs[i] = a at *
      unfold pCells at h5 ⊢
      unfold fn73_l0
      simp -implicitDefEqProofs only [code_skip, code_ops, code_seq, code_cond, code_block, code_ret, ops_cons, ops_nil, aOp, opd, upd_at, kt_cons, stepVal, aBin, aInt, aIndexList, isShift, readAt, acells_agg, gcE, gc_mk, gcIds_mk, newIds_nil, newIds_cons, gcMap_at, posOf, ren, renC, renO_box, idsV, idsC, idsO_box, wipe_agg, wipe_ptr, wipe_vptr, wipeC_list, wipeC_int, wipeC_str, isData_list_none, isData_bool, isData_int, isData_str, isData_agg, isData_vptr, isData_ptr, isData_map, isDataL_nil, isDataL_cons, Option.map_some, Option.getD_some, List.map_cons, List.map_nil, List.flatMap_cons, List.flatMap_nil, List.length_cons, List.length_nil, List.cons_append, List.nil_append, List.append_nil, List.getElem?_cons_zero, List.getElem?_cons_succ, List.take_succ_cons, List.drop_zero, List.take_nil, List.all_cons, List.all_nil, List.mem_cons, List.not_mem_nil, ↓reduceIte, Bool.and_true, Bool.and_false, Bool.false_eq_true, and_true, and_false, or_true, or_false, not_true_eq_false, not_false_eq_true, decide_true, and_self, Nat.le_refl, Nat.zero_le, reduceCtorEq, Nat.zero_add, Nat.reduceEqDiff, Nat.reduceAdd, Nat.reduceLT, Nat.reduceLeDiff, Int.toNat_natCast, Int.natCast_nonneg, roundF_eq, kt_nil, rCall_eq, rootsOf_eq, grow_eq, subHeap_eq, putBack_eq, pb_nil, pb_cons, backRes_val, encPred_eq, data_Tys, ↓renO_encM, ↓idsO_encM, h1, h3, h5, h6, reduceCtorEq, doCall_p L hp, hp])
    (by
      have h0 : ¬ ((qs.length : Int) < qs.length) := by omega
      unfold pCells
      unfold fn73_l0
      simp -implicitDefEqProofs only [code_ops, code_seq, code_cond, code_exit, ops_cons, ops_nil, aOp, opd, upd_at, kt_cons, stepVal, aBin, aInt, isShift, gcE, gc_mk, gcIds_mk, newIds_nil, newIds_cons, gcMap_at, posOf, ren, renC, renO_box, idsV, idsC, idsO_box, isData_ptr, isData_map, isData_junk, List.map_cons, List.map_nil, List.flatMap_cons, List.flatMap_nil, List.length_cons, List.length_nil, List.cons_append, List.nil_append, List.append_nil, List.take_succ_cons, List.take_nil, List.not_mem_nil, ↓reduceIte, Bool.false_eq_true, and_true, not_false_eq_true, decide_false, Nat.le_refl, reduceCtorEq, Nat.zero_add, Nat.reduceEqDiff, Nat.reduceAdd, Nat.reduceLT, Nat.reduceLeDiff, roundF_eq, kt_nil, ↓renO_encM, ↓idsO_encM, h0, reduceCtorEq])
  simp only [Int.natCast_zero] at hloop
  unfold fn73 idxF
  unfold pCells at hloop ⊢
  cases hq : findFrom (fun i a => if (trial m p a).1 = true then some i else none) qs 0 <;> simp only [hq, fromFind] at hloop <;> simp -implicitDefEqProofs only [code_ops, code_seq, code_ret, ops_cons, ops_nil, aOp, opd, upd_at, initTm_at, kt_cons, stepVal, aLen, endFn, aResults, aResult, tupled, code_loopF, gcE, gc_mk, gcIds_mk, newIds_nil, newIds_cons, gcMap_at, posOf, ren, renC, renO_box, idsV, idsC, idsO_box, isData_list_none, isData_int, isData_str, isData_func, isData_vptr, isData_ptr, isData_map, isDataL_nil, isDataL_cons, Option.map_some, Option.getD_some, List.map_cons, List.map_nil, List.flatMap_cons, List.flatMap_nil, List.length_cons, List.length_nil, List.length_map, List.cons_append, List.nil_append, List.append_nil, List.getElem?_cons_zero, List.getElem?_cons_succ, List.take_succ_cons, List.take_nil, List.not_mem_nil, ↓reduceIte, Bool.and_true, Bool.and_false, Bool.false_eq_true, and_true, not_false_eq_true, Nat.le_refl, reduceCtorEq, Nat.zero_add, Nat.reduceEqDiff, Nat.reduceAdd, Nat.reduceLT, Nat.reduceLeDiff, Int.reduceNeg, kt_nil, code_frame_seq, data_Tys, data_Preds, ↓renO_encM, ↓idsO_encM, hloop, hq]

theorem con56 {L : Lib} (hL : Plain L) (h70 : L.fns 70 = some fn70) (h71 : L.fns 71 = some fn71) (h55 : L.fns 55 = some fn55) (h57 : L.fns 57 = some fn57) (h73 : L.fns 73 = some fn73) (hf : L.fns 56 = some fn56) (p : Pred) (qs : List Pred) (hl : qs.length < 2 ^ 30) (hpf : TyFit p.type) (hqf : ∀ q ∈ qs, TyFit q.type) (m : Mt) (hm : MFit m) (hs : MSort m) :
    call L 56 [.list (qs.map encPred) none, .func 57 [] [.ptr (some (0, 0)), .vptr (pCells p) 0]] [.box [.ptr (some (1, 0))], .box [.map (some 2)], .map (encM m)] = some (.val (.bool (qs.any fun q => (trial m p q).1)), [.box [.ptr (some (1, 0))], .box [.map (some 2)], .map (encM m)]) := by
  have hp := hL.pure
  refine call_of (hL.summ 56 (by rw [hf]; exact fun hx => by cases hx)) hf ?_
  have hi := idx73 hL h70 h71 h55 h57 h73 p qs hl hpf hqf m hm hs
  have ha := idxF_any (fun q => (trial m p q).1) qs
  unfold fn56
  unfold pCells at hi ⊢
  generalize idxF (fun q => (trial m p q).1) qs = n at *
  cases hq : qs.any fun q => (trial m p q).1 <;> rw [hq] at ha <;> simp -implicitDefEqProofs only [code_ops, code_seq, code_ret, ops_cons, ops_nil, aOp, opd, upd_at, initTm_at, kt_cons, stepVal, aBin, aInt, isShift, endFn, aResults, aResult, tupled, gcE, gc_mk, gcIds_mk, newIds_nil, newIds_cons, gcMap_at, posOf, ren, renC, renO_box, idsV, idsC, idsO_box, wipe_list, wipe_func, isData_list_none, isData_bool, isData_int, isData_str, isData_func, isData_vptr, isData_ptr, isData_map, isDataL_nil, isDataL_cons, Option.map_some, Option.getD_some, List.map_cons, List.map_nil, List.flatMap_cons, List.flatMap_nil, List.length_cons, List.length_nil, List.cons_append, List.nil_append, List.append_nil, List.getElem?_cons_zero, List.getElem?_cons_succ, List.take_succ_cons, List.take_nil, List.all_cons, List.all_nil, List.mem_cons, List.not_mem_nil, ↓reduceIte, Bool.and_true, Bool.and_false, Bool.false_eq_true, and_true, and_false, or_true, or_false, not_true_eq_false, not_false_eq_true, decide_true, and_self, Nat.le_refl, Nat.zero_le, reduceCtorEq, Nat.zero_add, Nat.reduceEqDiff, Nat.reduceAdd, Nat.reduceLT, Nat.reduceLeDiff, ge_iff_le, code_frame_seq, rCall_eq, rootsOf_eq, grow_eq, subHeap_eq, putBack_eq, pb_nil, pb_cons, backRes_val, data_Tys, data_Preds, ↓renO_encM, ↓idsO_encM, hi, doCall_p L hp, hp, ha]

def generalB (a b : Scheme) : Bool := (inst a.type b.type []).1 && a.preds.all fun p => b.preds.any fun q => (trial (inst a.type b.type []).2 p q).1

def sCells (s : Scheme) : List AVal := [.int .i64 s.vars, .list (s.preds.map encPred) none, .int .i64 s.type.kind, .str s.type.name, .int .i64 s.type.var, .list (s.type.args.map encTy) none]
def C35 (a b : Scheme) (m : Mt) (i : Nat) : St := ⟨kt [3, 5, 20, 21, 22] [.ptr (some (1, 0)), .ptr (some (4, 0)), .list (a.preds.map encPred) none, .int .i64 a.preds.length, .int .i64 i],
  [.box (sCells a), .box (sCells b), .map (encM m), .box [.map (some 2)], .box [.ptr (some (3, 0))]]⟩
theorem general_l0 {L : Lib} (hL : Plain L) (h70 : L.fns 70 = some fn70) (h71 : L.fns 71 = some fn71) (h55 : L.fns 55 = some fn55) (h57 : L.fns 57 = some fn57) (h73 : L.fns 73 = some fn73) (h56 : L.fns 56 = some fn56) (a b : Scheme) (ha : a.preds.length < 2 ^ 30) (hb : b.preds.length < 2 ^ 30)
    (hpf : ∀ p ∈ a.preds, TyFit p.type) (hqf : ∀ q ∈ b.preds, TyFit q.type) (m : Mt) (hm : MFit m) (hs : MSort m) :
    loopF L.pure (call L) 5 [3, 5, 20, 21, 22] [4] 0 fn35_l0 (C35 a b m 0) = some (if a.preds.any (fun p => !(b.preds.any fun q => (trial m p q).1)) = true then (.ret, ⟨kt [4] [.bool false], (C35 a b m 0).h⟩) else (.normal, ⟨kt [4] [.junk], (C35 a b m 0).h⟩)) := by
  have hp := hL.pure
  refine loopF_any a.preds (fun p => !(b.preds.any fun q => (trial m p q).1)) (C35 a b m) ⟨kt [4] [.junk], _⟩ ⟨kt [4] [.bool false], _⟩ ?_ ?_ ?_
  · intro i hi hq
    obtain ⟨h1, h2, h3⟩ := round_facts' encPred a.preds ha i hi
    have h5 := con56 hL h70 h71 h55 h57 h73 h56 a.preds[i] b.preds hb (hpf _ (List.getElem_mem hi)) hqf m hm hs
    have h6 : (b.preds.any fun q => (trial m a.preds[i] q).1) = true := by simpa using hq
    rw [h6] at h5
    generalize a.preds[i] = p at *
    unfold pCells at h5
    unfold fn35_l0 C35 sCells
    simp -implicitDefEqProofs only [code_skip, code_ops, code_seq, code_cond, code_block, ops_cons, ops_nil, aOp, opd, upd_at, upd_none, kt_cons, stepVal, stepHeap, aBin, aInt, aUn, aIndexList, isShift, aLoad1, aStore, readAt, aField, leaf, acells_agg, cellsSet, gc_mk, gcIds_mk, newIds_nil, newIds_cons, gcMap_at, posOf, ren, renC, renO_box, idsV, idsC, idsO_box, wipe_list, wipe_func, isData_list_none, isData_bool, isData_int, isData_str, isData_func, isData_vptr, isData_ptr, isData_map, isDataL_nil, isDataL_cons, Option.map_some, Option.getD_some, List.map_cons, List.map_nil, List.flatMap_cons, List.flatMap_nil, List.length_cons, List.length_nil, List.cons_append, List.nil_append, List.append_nil, List.getElem?_cons_zero, List.getElem?_cons_succ, List.set_cons_zero, List.set_cons_succ, List.take_succ_cons, List.take_zero, List.drop_succ_cons, List.drop_zero, List.take_nil, List.drop_nil, List.all_cons, List.all_nil, List.mem_cons, List.not_mem_nil, ↓reduceIte, Bool.and_true, Bool.and_false, Bool.not_true, Bool.false_eq_true, and_true, and_false, or_true, or_false, not_true_eq_false, not_false_eq_true, decide_true, and_self, Nat.le_refl, Nat.zero_le, reduceCtorEq, Nat.zero_add, Nat.reduceEqDiff, Nat.reduceAdd, Nat.reduceLT, Nat.reduceLeDiff, Int.toNat_natCast, Int.natCast_nonneg, roundF_eq, kt_nil, code_freeze, freezeS_mk, frzT_at, frz, frzC, frzO, rCall_eq, rootsOf_eq, grow_eq, subHeap_eq, putBack_eq, pb_nil, pb_cons, backRes_val, encPred_eq, data_Tys, data_Preds, ↓renO_encM, ↓idsO_encM, h1, h2, h3, h5, doCall_p L hp, hp]
  · intro i hi hq
    obtain ⟨h1, h2, h3⟩ := round_facts' encPred a.preds ha i hi
    have h5 := con56 hL h70 h71 h55 h57 h73 h56 a.preds[i] b.preds hb (hpf _ (List.getElem_mem hi)) hqf m hm hs
    have h6 : (b.preds.any fun q => (trial m a.preds[i] q).1) = false := by simpa using hq
    rw [h6] at h5
    generalize a.preds[i] = p at *
    unfold pCells at h5
    unfold fn35_l0 C35 sCells
    simp -implicitDefEqProofs only [code_skip, code_ops, code_seq, code_cond, code_block, code_ret, ops_cons, ops_nil, aOp, opd, upd_at, upd_none, kt_cons, stepVal, stepHeap, aBin, aInt, aUn, aIndexList, isShift, aLoad1, aStore, readAt, aField, leaf, acells_agg, cellsSet, gcE, gc_mk, gcIds_mk, newIds_nil, newIds_cons, gcMap_at, posOf, ren, renC, renO_box, idsV, idsC, idsO_box, wipe_list, wipe_func, isData_list_none, isData_bool, isData_int, isData_str, isData_func, isData_vptr, isData_ptr, isData_map, isDataL_nil, isDataL_cons, Option.map_some, Option.getD_some, List.map_cons, List.map_nil, List.flatMap_cons, List.flatMap_nil, List.length_cons, List.length_nil, List.cons_append, List.nil_append, List.append_nil, List.getElem?_cons_zero, List.getElem?_cons_succ, List.set_cons_zero, List.set_cons_succ, List.take_succ_cons, List.take_zero, List.drop_succ_cons, List.drop_zero, List.take_nil, List.drop_nil, List.all_cons, List.all_nil, List.mem_cons, List.not_mem_nil, ↓reduceIte, Bool.and_true, Bool.and_false, Bool.not_false, Bool.false_eq_true, and_true, and_false, or_true, or_false, not_true_eq_false, not_false_eq_true, decide_true, and_self, Nat.le_refl, Nat.zero_le, reduceCtorEq, Nat.zero_add, Nat.reduceEqDiff, Nat.reduceAdd, Nat.reduceLT, Nat.reduceLeDiff, Int.toNat_natCast, Int.natCast_nonneg, roundF_eq, kt_nil, code_freeze, freezeS_mk, frzT_at, frz, frzC, frzO, rCall_eq, rootsOf_eq, grow_eq, subHeap_eq, putBack_eq, pb_nil, pb_cons, backRes_val, encPred_eq, data_Tys, data_Preds, ↓renO_encM, ↓idsO_encM, h1, h2, h3, h5, doCall_p L hp, hp]
  · have h0 : ¬ ((a.preds.length : Int) < a.preds.length) := by omega
    unfold fn35_l0 C35 sCells
    simp -implicitDefEqProofs only [code_ops, code_seq, code_cond, code_exit, ops_cons, ops_nil, aOp, opd, upd_at, kt_cons, stepVal, aBin, aInt, isShift, gcE, gc_mk, gcIds_mk, newIds_nil, newIds_cons, gcMap_at, posOf, ren, renC, renO_box, idsV, idsC, idsO_box, isData_list_none, isData_int, isData_str, isData_ptr, isData_map, isData_junk, List.map_cons, List.map_nil, List.flatMap_cons, List.flatMap_nil, List.length_cons, List.length_nil, List.cons_append, List.nil_append, List.append_nil, List.take_succ_cons, List.take_nil, List.not_mem_nil, ↓reduceIte, Bool.false_eq_true, and_true, not_false_eq_true, decide_false, Nat.le_refl, Nat.zero_add, Nat.reduceEqDiff, Nat.reduceAdd, Nat.reduceLT, Nat.reduceLeDiff, roundF_eq, kt_nil, data_Tys, data_Preds, ↓renO_encM, ↓idsO_encM, h0]

def FitScheme (s : Scheme) : Prop := s.preds.length < 2 ^ 30 ∧ TyFit s.type ∧ ∀ p ∈ s.preds, TyFit p.type
theorem general_ok {L : Lib} (hL : Plain L) (h70 : L.fns 70 = some fn70) (h71 : L.fns 71 = some fn71) (h55 : L.fns 55 = some fn55) (h57 : L.fns 57 = some fn57) (h73 : L.fns 73 = some fn73) (h56 : L.fns 56 = some fn56) (h35 : L.fns 35 = some fn35) (a b : Scheme) (ha : FitScheme a) (hb : FitScheme b) (h : Heap) :
    pcall L 35 [.agg (sCells a), .agg (sCells b)] h = some (.val (.bool (generalB a b)), h) := by
  have hp := hL.pure
  refine pcall_fn hL h35 rfl ?_ h
  have h0 : MFit [] := fun p hp => by cases hp
  have hi := inst_ok hL h70 h71 h55 a.type b.type ha.2.1 hb.2.1 [] h0
  have hm := inst_fit a.type b.type [] hb.2.1 h0
  have hs := inst_sort a.type b.type [] .nil
  have hloop := general_l0 hL h70 h71 h55 h57 h73 h56 a b ha.1 hb.1 ha.2.2 hb.2.2 _ hm hs
  have he : encM [] = [] := rfl
  rw [he] at hi
  unfold generalB
  generalize inst a.type b.type [] = r at *
  obtain ⟨r, m⟩ := r
  have hall : (a.preds.any fun p => !(b.preds.any fun q => (trial m p q).1)) = !(a.preds.all fun p => b.preds.any fun q => (trial m p q).1) := by rw [List.any_eq_not_all_not]; simp
  dsimp only at hloop hi ⊢
  rw [hall] at hloop
  unfold C35 sCells at hloop
  simp only [Int.natCast_zero] at hloop
  unfold fn35 sCells
  cases r
  · simp -implicitDefEqProofs only [code_ops, code_seq, code_cond, code_ret, ops_cons, ops_nil, aOp, opd, upd_at, upd_none, initTm_at, stepVal, stepHeap, aUn, aLoad1, aStore, readAt, aField, fillA, known, leaf, acells_agg, acells_ptr, acells_map, cellsSet, endFn, aResults, aResult, tupled, newIds_nil, newIds_cons, posOf, ren, renC, renO_box, renO_nilm, idsV, idsC, idsO_box, idsO_nilm, wipe_agg, wipeR_bool, wipe_ptr, wipeC_list, wipeC_int, wipeC_str, isData_list_none, isData_bool, isData_int, isData_str, isData_agg, isData_ptr, isData_map, isDataL_nil, isDataL_cons, Option.map_some, Option.getD_some, List.map_cons, List.map_nil, List.flatMap_cons, List.flatMap_nil, List.length_cons, List.length_nil, List.cons_append, List.nil_append, List.append_nil, List.getElem?_cons_zero, List.getElem?_cons_succ, List.set_cons_zero, List.set_cons_succ, List.take_succ_cons, List.take_zero, List.drop_succ_cons, List.drop_zero, List.take_nil, List.drop_nil, List.all_cons, List.all_nil, List.mem_cons, List.not_mem_nil, ↓reduceIte, Bool.and_true, Bool.false_and, Bool.not_false, Bool.false_eq_true, and_false, or_true, or_false, not_true_eq_false, not_false_eq_true, decide_true, and_self, Nat.le_refl, Nat.zero_le, reduceCtorEq, Nat.zero_add, Nat.reduceEqDiff, Nat.reduceAdd, Nat.reduceLT, rCall_eq, rootsOf_eq, grow_eq, subHeap_eq, putBack_eq, pb_nil, pb_cons, backRes_val, data_Tys, outOf_val, ↓renO_encM, ↓idsO_encM, hi, doCall_p L hp, hp]
  · cases hq : a.preds.all fun p => b.preds.any fun q => (trial m p q).1
    · rw [hq] at hloop
      simp only [Bool.not_false, if_true] at hloop
      simp -implicitDefEqProofs only [code_skip, code_ops, code_seq, code_cond, ops_cons, ops_nil, aOp, opd, upd_at, upd_none, initTm_at, kt_cons, stepVal, stepHeap, aLen, aUn, aLoad1, aStore, readAt, aField, fillA, known, leaf, acells_agg, acells_ptr, acells_map, cellsSet, endFn, aResults, aResult, tupled, code_loopF, gc_mk, gcIds_mk, newIds_nil, newIds_cons, gcMap_at, posOf, ren, renC, renO_box, renO_nilm, idsV, idsC, idsO_box, idsO_nilm, wipe_agg, wipeR_bool, wipe_ptr, wipeC_list, wipeC_int, wipeC_str, isData_list_none, isData_bool, isData_int, isData_str, isData_agg, isData_ptr, isData_map, isDataL_nil, isDataL_cons, Option.map_some, Option.getD_some, List.map_cons, List.map_nil, List.flatMap_cons, List.flatMap_nil, List.length_cons, List.length_nil, List.length_map, List.cons_append, List.nil_append, List.append_nil, List.getElem?_cons_zero, List.getElem?_cons_succ, List.set_cons_zero, List.set_cons_succ, List.take_succ_cons, List.take_zero, List.drop_succ_cons, List.drop_zero, List.take_nil, List.drop_nil, List.all_cons, List.all_nil, List.mem_cons, List.not_mem_nil, ↓reduceIte, Bool.and_true, Bool.and_false, Bool.not_true, Bool.false_eq_true, and_true, and_false, or_true, or_false, not_true_eq_false, not_false_eq_true, decide_true, and_self, Nat.le_refl, Nat.zero_le, reduceCtorEq, Nat.zero_add, Nat.reduceEqDiff, Nat.reduceAdd, Nat.reduceLT, Nat.reduceLeDiff, rCall_eq, rootsOf_eq, grow_eq, subHeap_eq, putBack_eq, pb_nil, pb_cons, backRes_val, data_Tys, data_Preds, outOf_val, ↓renO_encM, ↓idsO_encM, hi, hloop, doCall_p L hp, hp]
    · rw [hq] at hloop
      simp only [Bool.not_true, Bool.false_eq_true, if_false] at hloop
      simp -implicitDefEqProofs only [code_skip, code_ops, code_seq, code_cond, code_ret, ops_cons, ops_nil, aOp, opd, upd_at, upd_none, initTm_at, stepVal, stepHeap, aLen, aUn, aLoad1, aStore, readAt, aField, fillA, known, leaf, acells_agg, acells_ptr, acells_map, cellsSet, endFn, aResults, aResult, tupled, code_loopF, gc_mk, gcIds_mk, newIds_nil, newIds_cons, gcMap_at, posOf, ren, renC, renO_box, renO_nilm, idsV, idsC, idsO_box, idsO_nilm, wipe_agg, wipeR_bool, wipe_ptr, wipeC_list, wipeC_int, wipeC_str, isData_list_none, isData_bool, isData_int, isData_str, isData_agg, isData_ptr, isData_map, isDataL_nil, isDataL_cons, Option.map_some, Option.getD_some, List.map_cons, List.map_nil, List.flatMap_cons, List.flatMap_nil, List.length_cons, List.length_nil, List.length_map, List.cons_append, List.nil_append, List.append_nil, List.getElem?_cons_zero, List.getElem?_cons_succ, List.set_cons_zero, List.set_cons_succ, List.take_succ_cons, List.take_zero, List.drop_succ_cons, List.drop_zero, List.take_nil, List.drop_nil, List.all_cons, List.all_nil, List.mem_cons, List.not_mem_nil, ↓reduceIte, Bool.and_true, Bool.not_true, Bool.false_eq_true, and_true, and_false, or_true, or_false, not_true_eq_false, not_false_eq_true, decide_true, and_self, Nat.le_refl, Nat.zero_le, reduceCtorEq, Nat.zero_add, Nat.reduceEqDiff, Nat.reduceAdd, Nat.reduceLT, Nat.reduceLeDiff, rCall_eq, rootsOf_eq, grow_eq, subHeap_eq, putBack_eq, pb_nil, pb_cons, backRes_val, data_Tys, data_Preds, outOf_val, ↓renO_encM, ↓idsO_encM, hi, hloop, doCall_p L hp, hp]
end Go.Abs
