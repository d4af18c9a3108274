/-
  What kindsError answers: the other loops. Conditions: none.
-/
import Derived.Test.YtlielgleabghlaaDoorSigN

set_option linter.unusedVariables false
set_option linter.unusedSimpArgs false
set_option maxRecDepth 100000
set_option maxHeartbeats 4000000
namespace Go.Abs

def vCells (v : ValSig) : List AVal := [.str v.name, .int .i64 v.scheme.vars, .list (v.scheme.preds.map encPred) none, .int .i64 v.scheme.type.kind, .str v.scheme.type.name, .int .i64 v.scheme.type.var, .list (v.scheme.type.args.map encTy) none]
def p2A_C (s : SigSpec) (v : ValSig) (v0 v38 v39 v40 : AVal) (ps : List Pred) (outs : List Ty) (i : Nat) : St :=
  ⟨kt [0, 5, 11, 38, 39, 40, 46, 47, 48] [v0, .list (outs.map encTy) (some (some 1)), .ptr (some (2, 0)), v38, v39, v40, .list (ps.map encPred) none, .int .i64 ps.length, .int .i64 i],
   [.box [.list (s.datas.map encData) none, .list (s.vals.map encVal) none], .tail outs.length 4, .box [.str v.name, .int .i64 v.scheme.vars, .list (v.scheme.preds.map encPred) none, .int .i64 v.scheme.type.kind, .str v.scheme.type.name, .int .i64 v.scheme.type.var, .list (v.scheme.type.args.map encTy) none]]⟩
theorem kinds_l2A {L : Lib} (s : SigSpec) (v : ValSig) (v0 v38 v39 v40 : AVal) (w0 : isData v0 = true) (w18 : isData v38 = true) (w19 : isData v39 = true) (w20 : isData v40 = true) (ps : List Pred) (hl : ps.length < 2 ^ 30) (base : List Ty) (hb : base.length + ps.length < 2 ^ 30) :
    loopF L.pure (call L) 3 [0, 5, 11, 38, 39, 40, 46, 47, 48] [0, 5, 11, 38, 39, 40] 6 fn39_l2 (p2A_C s v v0 v38 v39 v40 ps base 0) =
    some (.normal, ⟨kt [0, 5, 11, 38, 39, 40] [v0, .list ((base ++ predTypes ps).map encTy) (some (some 1)), .ptr (some (2, 0)), v38, v39, v40], (p2A_C s v v0 v38 v39 v40 ps (base ++ predTypes ps) 0).h⟩) := by
  have h := loopF_count (pure := L.pure) (call := call L) (b := 3) (keep := [0, 5, 11, 38, 39, 40, 46, 47, 48]) (fk := [0, 5, 11, 38, 39, 40]) (id := 6) (body := fn39_l2) (fun i => p2A_C s v v0 v38 v39 v40 ps (base ++ (ps.take i).map (·.type)) i) ps.length
    (T := ⟨kt [0, 5, 11, 38, 39, 40] [v0, .list ((base ++ predTypes ps).map encTy) (some (some 1)), .ptr (some (2, 0)), v38, v39, v40], (p2A_C s v v0 v38 v39 v40 ps (base ++ predTypes ps) 0).h⟩) ?_ ?_
  · simpa using h
  · intro i hi
    obtain ⟨h1, h2, h3⟩ := round_facts encPred ps hl i hi
    have hlen : (base ++ (ps.take i).map (·.type)).length = base.length + i := by simp; omega
    have hm : base.length + i + 1 ≤ 1073741824 := by omega
    rw [List.take_succ_eq_append_getElem hi, List.map_append, ← List.append_assoc]
    generalize base ++ (ps.take i).map (·.type) = outs at *
    generalize ps[i] = a at *
    unfold fn39_l2 p2A_C
    simp -implicitDefEqProofs only [code_skip, code_ops, code_seq, code_cond, code_block, ops_cons, ops_nil, aOp, opd, upd_at, upd_none, kt_cons, stepVal, stepHeap, aBin, aInt, aIndexList, isShift, aStore, readAt, aField, leaf, acells_agg, cellsSet, gc_mk, gcIds_mk, newIds_nil, newIds_cons, gcMap_at, posOf, ren, renC, renO_box, renO_tail, idsV, idsC, idsO_box, idsO_tail, aAppend, wipe_agg, wipeC_list, wipeC_int, wipeC_str, isData_list_none, isData_list_tail, isData_int, isData_str, isData_agg, isData_ptr, isDataL_nil, isDataL_cons, isDataL_append, Option.map_some, List.map_cons, List.map_nil, List.flatMap_cons, List.flatMap_nil, List.length_cons, List.length_nil, List.length_append, List.length_map, List.cons_append, List.nil_append, List.append_nil, List.getElem?_cons_zero, List.getElem?_cons_succ, List.set_cons_zero, List.set_cons_succ, List.take_succ_cons, List.take_zero, List.drop_succ_cons, List.drop_zero, List.take_nil, List.drop_nil, List.all_cons, List.all_nil, List.not_mem_nil, ↓reduceIte, Bool.and_true, Bool.false_eq_true, and_true, not_false_eq_true, decide_true, and_self, Nat.le_refl, reduceCtorEq, Nat.zero_add, Nat.reduceEqDiff, Nat.reduceAdd, Nat.reduceLT, Nat.reduceLeDiff, Int.toNat_natCast, Int.natCast_nonneg, List.cons_ne_nil, roundF_eq, maxLen_eq, List.map_append, kt_nil, encTy_eq, encPred_eq, data_Tys, data_Datas, data_Preds, data_Vals, all_Tys, h1, h2, h3, hm, hlen, w0, w18, w19, w20]
  · have h0 : ¬ ((ps.length : Int) < ps.length) := by omega
    rw [List.take_length]
    unfold fn39_l2 p2A_C predTypes
    simp -implicitDefEqProofs only [code_ops, code_seq, code_cond, code_exit, ops_cons, ops_nil, aOp, opd, upd_at, kt_cons, stepVal, aBin, aInt, isShift, gcE, gc_mk, gcIds_mk, newIds_nil, newIds_cons, gcMap_at, posOf, ren, renC, renO_box, renO_tail, idsV, idsC, idsO_box, idsO_tail, isData_list_none, isData_list_tail, isData_int, isData_str, isData_ptr, isDataL_append, List.map_cons, List.map_nil, List.flatMap_cons, List.flatMap_nil, List.length_cons, List.length_nil, List.length_append, List.length_map, List.cons_append, List.nil_append, List.append_nil, List.take_succ_cons, List.take_nil, List.not_mem_nil, ↓reduceIte, Bool.and_true, Bool.false_eq_true, and_true, not_false_eq_true, decide_false, Nat.le_refl, reduceCtorEq, Nat.zero_add, Nat.reduceEqDiff, Nat.reduceAdd, Nat.reduceLT, Nat.reduceLeDiff, roundF_eq, List.map_append, kt_nil, data_Tys, data_Datas, data_Preds, data_Vals, h0, w0, w18, w19, w20]

def p2B_C (s : SigSpec) (v : ValSig) (v0 v38 v39 v40 : AVal) (ps : List Pred) (outs : List Ty) (i : Nat) : St :=
  ⟨kt [0, 5, 11, 38, 39, 40, 46, 47, 48] [v0, .list (outs.map encTy) (ownAt 2 i), .ptr (some (1, 0)), v38, v39, v40, .list (ps.map encPred) none, .int .i64 ps.length, .int .i64 i],
   .box [.list (s.datas.map encData) none, .list (s.vals.map encVal) none] :: .box [.str v.name, .int .i64 v.scheme.vars, .list (v.scheme.preds.map encPred) none, .int .i64 v.scheme.type.kind, .str v.scheme.type.name, .int .i64 v.scheme.type.var, .list (v.scheme.type.args.map encTy) none] :: tailAt 4 i⟩
theorem kinds_l2B {L : Lib} (s : SigSpec) (v : ValSig) (v0 v38 v39 v40 : AVal) (w0 : isData v0 = true) (w18 : isData v38 = true) (w19 : isData v39 = true) (w20 : isData v40 = true) (ps : List Pred) (hl : ps.length < 2 ^ 30) :
    loopF L.pure (call L) 2 [0, 5, 11, 38, 39, 40, 46, 47, 48] [0, 5, 11, 38, 39, 40] 6 fn39_l2 (p2B_C s v v0 v38 v39 v40 ps [] 0) =
    some (.normal, ⟨kt [0, 5, 11, 38, 39, 40] [v0, .list ((predTypes ps).map encTy) (ownAt 2 ps.length), .ptr (some (1, 0)), v38, v39, v40], (p2B_C s v v0 v38 v39 v40 ps [] ps.length).h⟩) := by
  have hp : True := trivial
  refine loopF_append ps (fun p : Pred => p.type) (p2B_C s v v0 v38 v39 v40 ps) _ ?_ ?_
  · intro i hi outs hlen
    obtain ⟨h1, h2, h3⟩ := round_facts encPred ps hl i hi
    have hm : i + 1 ≤ 1073741824 := by omega
    generalize ps[i] = a at *
    cases i with
    | zero =>
      obtain rfl := List.eq_nil_of_length_eq_zero hlen
      have h1 : (0 : Int) < ps.length := by omega
      have h2 : IntKind.i64.wrap 1 = 1 := by decide
      unfold fn39_l2 p2B_C
      simp -implicitDefEqProofs only [code_skip, code_ops, code_seq, code_cond, code_block, ops_cons, ops_nil, aOp, opd, upd_at, upd_none, kt_cons, stepVal, stepHeap, aBin, aInt, aIndexList, isShift, aStore, readAt, aField, leaf, acells_agg, cellsSet, gc_mk, gcIds_mk, newIds_nil, newIds_cons, gcMap_at, posOf, ren, renC, renO_box, renO_tail, idsV, idsC, idsO_box, aAppend, wipe_agg, wipeC_list, wipeC_int, wipeC_str, isData_list_none, isData_list_tail, isData_int, isData_str, isData_agg, isData_ptr, isDataL_nil, isDataL_cons, Option.map_some, Option.getD_some, List.map_cons, List.map_nil, List.flatMap_cons, List.flatMap_nil, List.length_cons, List.length_nil, List.cons_append, List.nil_append, List.append_nil, List.getElem?_cons_zero, List.getElem?_cons_succ, List.set_cons_zero, List.set_cons_succ, List.take_succ_cons, List.take_zero, List.drop_succ_cons, List.drop_zero, List.take_nil, List.drop_nil, List.all_cons, List.all_nil, List.mem_cons, List.not_mem_nil, ↓reduceIte, Bool.and_true, Bool.false_eq_true, and_true, or_false, not_false_eq_true, decide_true, and_self, Nat.le_refl, reduceCtorEq, Nat.zero_add, Nat.reduceEqDiff, Nat.reduceAdd, Nat.reduceLT, Nat.reduceLeDiff, Int.reduceToNat, Int.reduceLE, List.cons_ne_nil, roundF_eq, maxLen_eq, Int.reduceAdd, kt_nil, Int.cast_ofNat_Int, encTy_eq, encPred_eq, data_Tys, data_Datas, data_Preds, data_Vals, ownAt_zero, ownAt_succ, tailAt_zero, tailAt_succ, h1, h2, h3, w0, w18, w19, w20]
    | succ j =>
      unfold fn39_l2 p2B_C
      simp -implicitDefEqProofs only [code_skip, code_ops, code_seq, code_cond, code_block, ops_cons, ops_nil, aOp, opd, upd_at, upd_none, kt_cons, stepVal, stepHeap, aBin, aInt, aIndexList, isShift, aStore, readAt, aField, leaf, acells_agg, cellsSet, gc_mk, gcIds_mk, newIds_nil, newIds_cons, gcMap_at, posOf, ren, renC, renO_box, renO_tail, idsV, idsC, idsO_box, aAppend, wipe_agg, wipeC_list, wipeC_int, wipeC_str, isData_list_none, isData_list_tail, isData_int, isData_str, isData_agg, isData_ptr, isDataL_nil, isDataL_cons, isDataL_append, Option.map_some, Option.getD_some, List.map_cons, List.map_nil, List.flatMap_cons, List.flatMap_nil, List.length_cons, List.length_nil, List.length_map, List.cons_append, List.nil_append, List.append_nil, List.getElem?_cons_zero, List.getElem?_cons_succ, List.set_cons_zero, List.set_cons_succ, List.take_succ_cons, List.take_zero, List.drop_succ_cons, List.drop_zero, List.take_nil, List.drop_nil, List.all_cons, List.all_nil, List.mem_cons, List.not_mem_nil, ↓reduceIte, Bool.and_true, Bool.false_eq_true, and_true, or_false, not_false_eq_true, decide_true, and_self, Nat.le_refl, reduceCtorEq, Nat.zero_add, Nat.reduceEqDiff, Nat.reduceAdd, Nat.reduceLT, Nat.reduceLeDiff, Int.toNat_natCast, Int.natCast_nonneg, List.cons_ne_nil, roundF_eq, maxLen_eq, List.map_append, kt_nil, encTy_eq, encPred_eq, data_Tys, data_Datas, data_Preds, data_Vals, all_Tys, ownAt_succ, tailAt_succ, h1, h2, h3, hm, hlen, w0, w18, w19, w20]
  · have h0 : ¬ ((ps.length : Int) < ps.length) := by omega
    unfold fn39_l2 p2B_C predTypes
    rcases own_cases 2 4 ps.length with ⟨g1, g2⟩ | ⟨g1, g2⟩ <;> simp -implicitDefEqProofs only [code_ops, code_seq, code_cond, code_exit, ops_cons, ops_nil, aOp, opd, upd_at, kt_cons, stepVal, aBin, aInt, isShift, gcE, gc_mk, gcIds_mk, newIds_nil, newIds_cons, gcMap_at, posOf, ren, renC, renO_box, renO_tail, idsV, idsC, idsO_box, isData_list_none, isData_list_full, isData_list_tail, isData_int, isData_str, isData_ptr, Option.getD_some, List.map_cons, List.map_nil, List.flatMap_cons, List.flatMap_nil, List.length_cons, List.length_nil, List.cons_append, List.nil_append, List.append_nil, List.getElem?_cons_zero, List.getElem?_cons_succ, List.take_succ_cons, List.take_zero, List.take_nil, List.mem_cons, List.not_mem_nil, ↓reduceIte, Bool.false_eq_true, and_true, or_false, not_false_eq_true, decide_false, and_self, Nat.le_refl, reduceCtorEq, Nat.zero_add, Nat.reduceEqDiff, Nat.reduceAdd, Nat.reduceLT, Nat.reduceLeDiff, roundF_eq, kt_nil, data_Tys, data_Datas, data_Preds, data_Vals, h0, w0, w18, w19, w20, g1, g2]

def v3A_C (s : SigSpec) (v0 : AVal) (vs : List ValSig) (outs : List Ty) (i : Nat) : St :=
  ⟨kt [0, 5, 38, 39, 40] [v0, .list (outs.map encTy) (some (some 1)), .list (vs.map encVal) none, .int .i64 vs.length, .int .i64 i], [.box [.list (s.datas.map encData) none, .list (s.vals.map encVal) none], .tail outs.length 4]⟩
theorem kinds_l3A {L : Lib} (s : SigSpec) (v0 : AVal) (w0 : isData v0 = true) (vs : List ValSig) (hl : vs.length < 2 ^ 30) (hlp : ∀ v ∈ vs, v.scheme.preds.length < 2 ^ 30) (base : List Ty) (hb : base.length + (valTypes vs).length < 2 ^ 30) :
    loopF L.pure (call L) 2 [0, 5, 38, 39, 40] [0, 5] 4 fn39_l3 (v3A_C s v0 vs base 0) =
    some (.normal, ⟨kt [0, 5] [v0, .list ((base ++ valTypes vs).map encTy) (some (some 1))], (v3A_C s v0 vs (base ++ valTypes vs) 0).h⟩) := by
  have h := loopF_count (pure := L.pure) (call := call L) (b := 2) (keep := [0, 5, 38, 39, 40]) (fk := [0, 5]) (id := 4) (body := fn39_l3) (fun i => v3A_C s v0 vs (base ++ (vs.take i).flatMap fun v => predTypes v.scheme.preds ++ [v.scheme.type]) i) vs.length
    (T := ⟨kt [0, 5] [v0, .list ((base ++ valTypes vs).map encTy) (some (some 1))], (v3A_C s v0 vs (base ++ valTypes vs) 0).h⟩) ?_ ?_
  · simpa using h
  · intro i hi
    obtain ⟨h1, h2, h3⟩ := round_facts encVal vs hl i hi
    have hle := flat_take_le (fun v : ValSig => predTypes v.scheme.preds ++ [v.scheme.type]) vs i hi
    have hlp := hlp vs[i] (List.getElem_mem hi)
    rw [flat_take _ vs i hi, ← List.append_assoc]
    have hm : (base ++ (vs.take i).flatMap fun v => predTypes v.scheme.preds ++ [v.scheme.type]).length + vs[i].scheme.preds.length + 1 < 2 ^ 30 := by
      rw [List.length_append]
      unfold valTypes at hb
      simp only [List.length_append, List.length_cons, List.length_nil] at hle
      have : (predTypes vs[i].scheme.preds).length = vs[i].scheme.preds.length := by simp [predTypes]
      omega
    generalize (base ++ (vs.take i).flatMap fun v => predTypes v.scheme.preds ++ [v.scheme.type]) = outs at *
    generalize vs[i] = a at *
    have hin := kinds_l2A (L := L) s a v0 (.list (vs.map encVal) none) (.int .i64 vs.length) (.int .i64 i) w0 (by simp -implicitDefEqProofs only [isData_list_none, data_Vals]) rfl rfl a.scheme.preds hlp outs (by omega)
    have hpl : (predTypes a.scheme.preds).length = a.scheme.preds.length := by simp [predTypes]
    unfold p2A_C at hin
    simp only [Int.natCast_zero, List.length_append, List.map_append] at hin
    have hm2 : outs.length + ((predTypes a.scheme.preds).length + 1) ≤ 1073741824 := by omega
    have hm3 : outs.length + (predTypes a.scheme.preds).length + 1 ≤ 1073741824 := by omega
    unfold fn39_l3 v3A_C
    simp -implicitDefEqProofs only [code_skip, code_ops, code_seq, code_cond, code_block, ops_cons, ops_nil, aOp, opd, upd_at, upd_none, kt_cons, stepVal, stepHeap, aBin, aLen, aInt, aIndexList, isShift, aLoad1, aStore, readAt, aField, leaf, acells_agg, cellsSet, code_loopF, gc_mk, gcIds_mk, newIds_nil, newIds_cons, gcMap_at, posOf, ren, renC, renO_box, renO_tail, idsV, idsC, idsO_box, idsO_tail, aAppend, wipe_agg, wipeC_list, wipeC_int, wipeC_str, isData_list_none, isData_list_tail, isData_int, isData_str, isData_agg, isData_ptr, isDataL_nil, isDataL_cons, isDataL_append, Option.map_some, List.map_cons, List.map_nil, List.flatMap_cons, List.flatMap_nil, List.length_cons, List.length_nil, List.length_append, List.length_map, List.cons_append, List.nil_append, List.append_nil, List.append_assoc, List.getElem?_cons_zero, List.getElem?_cons_succ, List.set_cons_zero, List.set_cons_succ, List.take_succ_cons, List.take_zero, List.drop_succ_cons, List.drop_zero, List.take_nil, List.drop_nil, List.all_cons, List.all_nil, List.not_mem_nil, ↓reduceIte, Bool.and_true, Bool.false_eq_true, and_true, not_false_eq_true, decide_true, and_self, Nat.le_refl, reduceCtorEq, Nat.zero_add, Nat.reduceEqDiff, Nat.reduceAdd, Nat.reduceLT, Nat.reduceLeDiff, Int.toNat_natCast, Int.natCast_nonneg, List.cons_ne_nil, roundF_eq, maxLen_eq, List.map_append, kt_nil, List.all_append, encTy_eq, encVal_eq, data_Tys, data_Datas, data_Preds, data_Vals, all_Tys, h1, h2, h3, w0, hin, hm2, hm3, Nat.add_assoc]
  · have h0 : ¬ ((vs.length : Int) < vs.length) := by omega
    rw [List.take_length]
    unfold fn39_l3 v3A_C valTypes
    simp -implicitDefEqProofs only [code_ops, code_seq, code_cond, code_exit, ops_cons, ops_nil, aOp, opd, upd_at, kt_cons, stepVal, aBin, aInt, isShift, gcE, gc_mk, gcIds_mk, newIds_nil, newIds_cons, gcMap_at, posOf, ren, renC, renO_box, renO_tail, idsV, idsC, idsO_box, idsO_tail, isData_list_none, isData_list_tail, isDataL_append, List.map_cons, List.map_nil, List.flatMap_cons, List.flatMap_nil, List.length_cons, List.length_nil, List.length_append, List.nil_append, List.append_nil, List.take_succ_cons, List.take_nil, List.not_mem_nil, ↓reduceIte, Bool.and_true, Bool.false_eq_true, and_true, not_false_eq_true, decide_false, Nat.le_refl, reduceCtorEq, Nat.zero_add, Nat.reduceEqDiff, Nat.reduceAdd, Nat.reduceLT, Nat.reduceLeDiff, roundF_eq, List.map_append, kt_nil, data_Tys, data_Datas, data_Vals, h0, w0]

def v3B_C (s : SigSpec) (v0 : AVal) (vs : List ValSig) (outs : List Ty) (i : Nat) : St :=
  ⟨kt [0, 5, 38, 39, 40] [v0, .list (outs.map encTy) (ownAt 1 outs.length), .list (vs.map encVal) none, .int .i64 vs.length, .int .i64 i], .box [.list (s.datas.map encData) none, .list (s.vals.map encVal) none] :: tailAt 4 outs.length⟩
theorem kinds_l3B {L : Lib} (s : SigSpec) (v0 : AVal) (w0 : isData v0 = true) (vs : List ValSig) (hl : vs.length < 2 ^ 30) (hlp : ∀ v ∈ vs, v.scheme.preds.length < 2 ^ 30) (hb : (valTypes vs).length < 2 ^ 30) :
    loopF L.pure (call L) 1 [0, 5, 38, 39, 40] [0, 5] 4 fn39_l3 (v3B_C s v0 vs [] 0) =
    some (.normal, ⟨kt [0, 5] [v0, .list ((valTypes vs).map encTy) (ownAt 1 (valTypes vs).length)], (v3B_C s v0 vs (valTypes vs) 0).h⟩) := by
  have h := loopF_count (pure := L.pure) (call := call L) (b := 1) (keep := [0, 5, 38, 39, 40]) (fk := [0, 5]) (id := 4) (body := fn39_l3) (fun i => v3B_C s v0 vs ((vs.take i).flatMap fun v => predTypes v.scheme.preds ++ [v.scheme.type]) i) vs.length
    (T := ⟨kt [0, 5] [v0, .list ((valTypes vs).map encTy) (ownAt 1 (valTypes vs).length)], (v3B_C s v0 vs (valTypes vs) 0).h⟩) ?_ ?_
  · simpa using h
  · intro i hi
    obtain ⟨h1, h2, h3⟩ := round_facts encVal vs hl i hi
    have hle := flat_take_le (fun v : ValSig => predTypes v.scheme.preds ++ [v.scheme.type]) vs i hi
    have hlp := hlp vs[i] (List.getElem_mem hi)
    rw [flat_take _ vs i hi]
    have hm : ((vs.take i).flatMap fun v => predTypes v.scheme.preds ++ [v.scheme.type]).length + vs[i].scheme.preds.length + 1 < 2 ^ 30 := by
      unfold valTypes at hb
      simp only [List.length_append, List.length_cons, List.length_nil] at hle
      have : (predTypes vs[i].scheme.preds).length = vs[i].scheme.preds.length := by simp [predTypes]
      omega
    generalize ((vs.take i).flatMap fun v => predTypes v.scheme.preds ++ [v.scheme.type]) = outs at *
    generalize vs[i] = a at *
    have hpl : (predTypes a.scheme.preds).length = a.scheme.preds.length := by simp [predTypes]
    cases outs with
    | nil =>
      have hin := kinds_l2B (L := L) s a v0 (.list (vs.map encVal) none) (.int .i64 vs.length) (.int .i64 i) w0 (by simp -implicitDefEqProofs only [isData_list_none, data_Vals]) rfl rfl a.scheme.preds hlp
      unfold p2B_C at hin
      simp only [Int.natCast_zero, ownAt_zero, tailAt_zero, List.map_nil, ← hpl] at hin
      have hpz : (a.scheme.preds.length : Int) = ((predTypes a.scheme.preds).length : Nat) := by rw [hpl]
      have hm2 : (predTypes a.scheme.preds).length + 1 ≤ 1073741824 := by simp at hm; omega
      unfold fn39_l3 v3B_C
      rcases Nat.eq_zero_or_pos (predTypes a.scheme.preds).length with hz | hz
      · have g1 : ownAt 2 (predTypes a.scheme.preds).length = some none := by rw [hz]; rfl
        have g2 : tailAt 4 (predTypes a.scheme.preds).length = [] := by rw [hz]; rfl
        simp -implicitDefEqProofs only [code_skip, code_ops, code_seq, code_cond, code_block, ops_cons, ops_nil, aOp, opd, upd_at, upd_none, kt_cons, stepVal, stepHeap, aBin, aLen, aInt, aIndexList, isShift, aLoad1, aStore, readAt, aField, leaf, acells_agg, cellsSet, code_loopF, gc_mk, gcIds_mk, newIds_nil, newIds_cons, gcMap_at, posOf, ren, renC, renO_box, renO_tail, idsV, idsC, idsO_box, aAppend, wipe_agg, wipeC_list, wipeC_int, wipeC_str, isData_list_none, isData_list_full, isData_list_tail, isData_int, isData_str, isData_agg, isData_ptr, isDataL_nil, isDataL_cons, isDataL_append, Option.map_some, Option.getD_some, List.map_cons, List.map_nil, List.flatMap_cons, List.flatMap_nil, List.length_cons, List.length_nil, List.length_append, List.length_map, List.cons_append, List.nil_append, List.append_nil, List.getElem?_cons_zero, List.getElem?_cons_succ, List.set_cons_zero, List.set_cons_succ, List.take_succ_cons, List.take_zero, List.drop_succ_cons, List.drop_zero, List.take_nil, List.drop_nil, List.all_cons, List.all_nil, List.not_mem_nil, ↓reduceIte, Bool.and_true, Bool.false_eq_true, and_true, not_false_eq_true, decide_true, and_self, Nat.le_refl, reduceCtorEq, Nat.zero_add, Nat.reduceEqDiff, Nat.reduceAdd, Nat.reduceLT, Nat.reduceLeDiff, Int.toNat_natCast, Int.natCast_nonneg, List.cons_ne_nil, roundF_eq, maxLen_eq, List.map_append, kt_nil, encTy_eq, encVal_eq, data_Tys, data_Datas, data_Preds, data_Vals, all_Tys, ownAt_zero, ownAt_succ, tailAt_zero, tailAt_succ, h1, h2, h3, w0, hin, g1, g2, hm2, hpz]
      · have g1 : ownAt 2 (predTypes a.scheme.preds).length = some (some 2) := ownAt_pos hz
        have g2 : tailAt 4 (predTypes a.scheme.preds).length = [.tail (predTypes a.scheme.preds).length 4] := tailAt_pos hz
        simp -implicitDefEqProofs only [code_skip, code_ops, code_seq, code_cond, code_block, ops_cons, ops_nil, aOp, opd, upd_at, upd_none, kt_cons, stepVal, stepHeap, aBin, aLen, aInt, aIndexList, isShift, aLoad1, aStore, readAt, aField, leaf, acells_agg, cellsSet, code_loopF, gc_mk, gcIds_mk, newIds_nil, newIds_cons, gcMap_at, posOf, ren, renC, renO_box, renO_tail, idsV, idsC, idsO_box, aAppend, wipe_agg, wipeC_list, wipeC_int, wipeC_str, isData_list_none, isData_list_full, isData_list_tail, isData_int, isData_str, isData_agg, isData_ptr, isDataL_nil, isDataL_cons, isDataL_append, Option.map_some, Option.getD_some, List.map_cons, List.map_nil, List.flatMap_cons, List.flatMap_nil, List.length_cons, List.length_nil, List.length_append, List.length_map, List.cons_append, List.nil_append, List.append_nil, List.getElem?_cons_zero, List.getElem?_cons_succ, List.set_cons_zero, List.set_cons_succ, List.take_succ_cons, List.take_zero, List.drop_succ_cons, List.drop_zero, List.take_nil, List.drop_nil, List.all_cons, List.all_nil, List.not_mem_nil, ↓reduceIte, Bool.and_true, Bool.false_eq_true, and_true, not_false_eq_true, decide_true, and_self, Nat.le_refl, reduceCtorEq, Nat.zero_add, Nat.reduceEqDiff, Nat.reduceAdd, Nat.reduceLT, Nat.reduceLeDiff, Int.toNat_natCast, Int.natCast_nonneg, List.cons_ne_nil, roundF_eq, maxLen_eq, List.map_append, kt_nil, encTy_eq, encVal_eq, data_Tys, data_Datas, data_Preds, data_Vals, all_Tys, ownAt_zero, ownAt_succ, tailAt_zero, tailAt_succ, h1, h2, h3, w0, hin, g1, g2, hm2, hpz]
    | cons x xs =>
      have hin := kinds_l2A (L := L) s a v0 (.list (vs.map encVal) none) (.int .i64 vs.length) (.int .i64 i) w0 (by simp -implicitDefEqProofs only [isData_list_none, data_Vals]) rfl rfl a.scheme.preds hlp (x :: xs) (by omega)
      have hpos : 0 < (x :: xs).length := by simp
      generalize x :: xs = outs at *
      unfold p2A_C at hin
      simp only [Int.natCast_zero, List.length_append, List.map_append] at hin
      have hm2 : outs.length + ((predTypes a.scheme.preds).length + 1) ≤ 1073741824 := by omega
      have hm3 : outs.length + (predTypes a.scheme.preds).length + 1 ≤ 1073741824 := by omega
      have g1 : ownAt 1 outs.length = some (some 1) := ownAt_pos hpos
      have g2 : tailAt 4 outs.length = [.tail outs.length 4] := tailAt_pos hpos
      have g3 : ownAt 1 (outs.length + ((predTypes a.scheme.preds).length + 1)) = some (some 1) := ownAt_pos (by omega)
      have g4 : tailAt 4 (outs.length + ((predTypes a.scheme.preds).length + 1)) = [.tail (outs.length + ((predTypes a.scheme.preds).length + 1)) 4] := tailAt_pos (by omega)
      unfold fn39_l3 v3B_C
      simp -implicitDefEqProofs only [code_skip, code_ops, code_seq, code_cond, code_block, ops_cons, ops_nil, aOp, opd, upd_at, upd_none, kt_cons, stepVal, stepHeap, aBin, aLen, aInt, aIndexList, isShift, aLoad1, aStore, readAt, aField, leaf, acells_agg, cellsSet, code_loopF, gc_mk, gcIds_mk, newIds_nil, newIds_cons, gcMap_at, posOf, ren, renC, renO_box, renO_tail, idsV, idsC, idsO_box, idsO_tail, aAppend, wipe_agg, wipeC_list, wipeC_int, wipeC_str, isData_list_none, isData_list_tail, isData_int, isData_str, isData_agg, isData_ptr, isDataL_nil, isDataL_cons, isDataL_append, Option.map_some, Option.getD_some, List.map_cons, List.map_nil, List.flatMap_cons, List.flatMap_nil, List.length_cons, List.length_nil, List.length_append, List.length_map, List.cons_append, List.nil_append, List.append_nil, List.append_assoc, List.getElem?_cons_zero, List.getElem?_cons_succ, List.set_cons_zero, List.set_cons_succ, List.take_succ_cons, List.take_zero, List.drop_succ_cons, List.drop_zero, List.take_nil, List.drop_nil, List.all_cons, List.all_nil, List.not_mem_nil, ↓reduceIte, Bool.and_true, Bool.false_eq_true, and_true, not_false_eq_true, decide_true, and_self, Nat.le_refl, reduceCtorEq, Nat.zero_add, Nat.reduceEqDiff, Nat.reduceAdd, Nat.reduceLT, Nat.reduceLeDiff, Int.toNat_natCast, Int.natCast_nonneg, List.cons_ne_nil, roundF_eq, maxLen_eq, List.map_append, kt_nil, List.all_append, encTy_eq, encVal_eq, data_Tys, data_Datas, data_Preds, data_Vals, all_Tys, h1, h2, h3, w0, hin, hm2, hm3, Nat.add_assoc, g1, g2, g3, g4]
  · have h0 : ¬ ((vs.length : Int) < vs.length) := by omega
    rw [List.take_length]
    unfold fn39_l3 v3B_C valTypes
    rcases own_cases 1 4 (vs.flatMap fun v => predTypes v.scheme.preds ++ [v.scheme.type]).length with ⟨g1, g2⟩ | ⟨g1, g2⟩ <;> simp -implicitDefEqProofs only [code_ops, code_seq, code_cond, code_exit, ops_cons, ops_nil, aOp, opd, upd_at, kt_cons, stepVal, aBin, aInt, isShift, gcE, gc_mk, gcIds_mk, newIds_nil, newIds_cons, gcMap_at, posOf, ren, renC, renO_box, renO_tail, idsV, idsC, idsO_box, isData_list_none, isData_list_full, isData_list_tail, Option.getD_some, List.map_cons, List.map_nil, List.flatMap_cons, List.flatMap_nil, List.length_cons, List.length_nil, List.cons_append, List.nil_append, List.append_nil, List.getElem?_cons_zero, List.getElem?_cons_succ, List.take_succ_cons, List.take_zero, List.take_nil, List.not_mem_nil, ↓reduceIte, Bool.false_eq_true, not_false_eq_true, decide_false, and_self, Nat.le_refl, reduceCtorEq, Nat.zero_add, Nat.reduceEqDiff, Nat.reduceAdd, Nat.reduceLT, Nat.reduceLeDiff, roundF_eq, kt_nil, data_Tys, data_Datas, data_Vals, h0, w0, g1, g2]

theorem kinds_l4 {L : Lib} {ca : ByteArray → ByteArray → Bool} (hL : Plain L) (hP : Prims L ca) (h68 : L.fns 68 = some fn68) (h67 : L.fns 67 = some fn67) (h49 : L.fns 49 = some fn49) (h61 : L.fns 61 = some fn61)
    (l : List DataSig) (hl : l.length < 2 ^ 30) (s : SigSpec) (ts : List Ty) (ht : ts.length < 2 ^ 30) (hfit : ∀ t ∈ ts, TyFit t) (own : Option (Option Nat)) (T : Heap) (hT : (own = some none ∧ T = []) ∨ (own = some (some 1) ∧ T = [.tail ts.length 4])) :
    loopF L.pure (call L) (1 + T.length) [0, 65, 66, 67] [4] 8 fn39_l4 ⟨kt [0, 65, 66, 67] [.list (l.map encData) none, .list (ts.map encTy) own, .int .i64 ts.length, .int .i64 ((0 : Nat) : Int)], .box [.list (s.datas.map encData) none, .list (s.vals.map encVal) none] :: T⟩ =
    some (if firstErr (ts.map (kindError l)) = 0 then (.normal, ⟨kt [4] [.junk], .box [.list (s.datas.map encData) none, .list (s.vals.map encVal) none] :: T⟩) else (.ret, ⟨kt [4] [.int .i64 (firstErr (ts.map (kindError l)))], .box [.list (s.datas.map encData) none, .list (s.vals.map encVal) none] :: T⟩)) := by
  have hp := hL.pure
  refine loopF_err ts (kindError l) (fun i => ⟨kt [0, 65, 66, 67] [.list (l.map encData) none, .list (ts.map encTy) own, .int .i64 ts.length, .int .i64 i], .box [.list (s.datas.map encData) none, .list (s.vals.map encVal) none] :: T⟩) ⟨kt [4] [.junk], _⟩ (fun e => ⟨kt [4] [.int .i64 e], _⟩) ?_ ?_ ?_
  · intro i hi he
    obtain ⟨h1, h2, h3⟩ := round_facts encTy ts ht i hi
    have ih1 := kindError_ok hL hP h68 h67 h49 h61 l hl ts[i] (hfit _ (List.getElem_mem hi))
    generalize ts[i] = a at *
    unfold fn39_l4
    rcases hT with ⟨rfl, rfl⟩ | ⟨rfl, rfl⟩ <;> simp -implicitDefEqProofs only [code_skip, code_ops, code_seq, code_cond, code_block, ops_cons, ops_nil, aOp, opd, upd_at, upd_none, kt_cons, stepVal, stepHeap, aBin, aInt, aIndexList, isShift, aStore, readAt, leaf, acells_agg, cellsSet, gc_mk, gcIds_mk, newIds_nil, newIds_cons, gcMap_at, posOf, ren, renC, renO_box, renO_tail, idsV, idsC, idsO_box, idsO_tail, wipe_agg, wipe_list, wipeC_list, wipeC_int, wipeC_str, isData_list_none, isData_list_full, isData_list_tail, isData_int, isData_str, isData_agg, isDataL_nil, isDataL_cons, beq_self_eq_true, Option.map_some, List.map_cons, List.map_nil, List.flatMap_cons, List.flatMap_nil, List.length_cons, List.length_nil, List.cons_append, List.nil_append, List.append_nil, List.getElem?_cons_zero, List.getElem?_cons_succ, List.set_cons_zero, List.set_cons_succ, List.take_succ_cons, List.take_zero, List.drop_succ_cons, List.drop_zero, List.take_nil, List.drop_nil, List.all_cons, List.all_nil, List.not_mem_nil, ↓reduceIte, Bool.and_true, Bool.not_true, Bool.false_eq_true, and_true, not_false_eq_true, decide_true, and_self, Nat.le_refl, reduceCtorEq, Nat.add_zero, Nat.zero_add, Nat.reduceEqDiff, Nat.reduceAdd, Nat.reduceLT, Nat.reduceLeDiff, Int.toNat_natCast, Int.natCast_nonneg, roundF_eq, kt_nil, onlyVal, encTy_eq, data_Tys, data_Datas, data_Vals, h1, h2, h3, ih1, he, doCall_p L hp, hp, bne]
  · intro i hi he
    obtain ⟨h1, h2, h3⟩ := round_facts encTy ts ht i hi
    have ih1 := kindError_ok hL hP h68 h67 h49 h61 l hl ts[i] (hfit _ (List.getElem_mem hi))
    generalize ts[i] = a at *
    have he : (kindError l a == 0) = false := by simpa using he
    unfold fn39_l4
    rcases hT with ⟨rfl, rfl⟩ | ⟨rfl, rfl⟩ <;> simp -implicitDefEqProofs only [code_skip, code_ops, code_seq, code_cond, code_block, code_ret, ops_cons, ops_nil, aOp, opd, upd_at, upd_none, kt_cons, stepVal, stepHeap, aBin, aInt, aIndexList, isShift, aStore, readAt, leaf, acells_agg, cellsSet, gcE, gc_mk, gcIds_mk, newIds_nil, gcMap_at, posOf, ren, renC, renO_box, renO_tail, idsV, idsC, idsO_box, idsO_tail, wipe_agg, wipe_list, wipeC_list, wipeC_int, wipeC_str, isData_list_none, isData_int, isData_str, isData_agg, isDataL_nil, isDataL_cons, Option.map_some, List.map_cons, List.map_nil, List.flatMap_cons, List.flatMap_nil, List.length_cons, List.length_nil, List.cons_append, List.nil_append, List.append_nil, List.getElem?_cons_zero, List.getElem?_cons_succ, List.set_cons_zero, List.set_cons_succ, List.take_succ_cons, List.take_zero, List.drop_succ_cons, List.drop_zero, List.take_nil, List.drop_nil, List.all_cons, List.all_nil, ↓reduceIte, Bool.and_true, Bool.not_false, Bool.false_eq_true, decide_true, and_self, Nat.le_refl, reduceCtorEq, Nat.add_zero, Nat.zero_add, Nat.reduceEqDiff, Nat.reduceAdd, Nat.reduceLeDiff, Int.toNat_natCast, Int.natCast_nonneg, roundF_eq, kt_nil, onlyVal, encTy_eq, data_Tys, data_Datas, data_Vals, h1, h2, h3, ih1, he, doCall_p L hp, hp, bne]
  · have h0 : ¬ ((ts.length : Int) < ts.length) := by omega
    unfold fn39_l4
    rcases hT with ⟨rfl, rfl⟩ | ⟨rfl, rfl⟩ <;> simp -implicitDefEqProofs only [code_ops, code_seq, code_cond, code_exit, ops_cons, ops_nil, aOp, opd, upd_at, kt_cons, stepVal, aBin, aInt, isShift, gcE, gc_mk, gcIds_mk, newIds_nil, gcMap_at, posOf, ren, renC, renO_box, renO_tail, idsV, idsC, idsO_box, idsO_tail, isData_list_none, isData_junk, List.map_cons, List.map_nil, List.flatMap_cons, List.flatMap_nil, List.length_cons, List.length_nil, List.append_nil, List.take_succ_cons, List.take_nil, ↓reduceIte, Bool.false_eq_true, decide_false, Nat.le_refl, reduceCtorEq, Nat.add_zero, Nat.zero_add, Nat.reduceEqDiff, Nat.reduceAdd, roundF_eq, kt_nil, data_Datas, data_Vals, h0]

end Go.Abs
