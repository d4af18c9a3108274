/-
  What the functions over types answer. Conditions: none.
-/
import Derived.Test.YtlielgleabghlaaDoorSigE
import Derived.Test.YtlielgleabghlaaDoorC

set_option linter.unusedVariables false
set_option linter.unusedSimpArgs false
set_option maxRecDepth 100000
set_option maxHeartbeats 4000000
namespace Go.Abs

def filled (t : Ty) (l : List Ty) : Ty :=
  match t with
  | .mk k n v as => if k = 0 then (if v < l.length then (l[v.toNat]?).getD (.mk k n v as) else .mk k n v as) else .mk k n 0 (as.attach.map fun a => filled a.1 l)
  termination_by SizeOf.sizeOf t
  decreasing_by
    have := Ty.mem_size a.2
    simp only [Ty.mk.sizeOf_spec]
    omega
theorem filled_eq (k : Int) (n : ByteArray) (v : Int) (as : List Ty) (l : List Ty) : filled (.mk k n v as) l = if k = 0 then (if v < l.length then (l[v.toNat]?).getD (.mk k n v as) else .mk k n v as) else .mk k n 0 (as.map fun a => filled a l) := by
  rw [filled]
  simp

/-- Variables are numbers, and lists are short. -/
inductive TyOk : Ty → Prop
  | mk {k : Int} {n : ByteArray} {v : Int} {as : List Ty} (hv : k = 0 → 0 ≤ v) (hl : as.length < 2 ^ 30) (ha : ∀ a ∈ as, TyOk a) : TyOk (.mk k n v as)

def filled_C (k v : Int) (n : ByteArray) (l as outs : List Ty) (i : Nat) : St :=
  ⟨kt [1, 4, 5, 28, 29, 30] [.list (l.map encTy) none, .ptr (some (1, 0)), .ptr (some (2, 0)), .list (as.map encTy) none, .int .i64 as.length, .int .i64 i],
   .box [.int .i64 k, .str n, .int .i64 v, .list (as.map encTy) none] :: .box [.int .i64 0, .str ⟨#[]⟩, .int .i64 0, .list [] (some none)] :: .box [.int .i64 k, .str n, .int .i64 0, .list (outs.map encTy) (ownAt 3 i)] :: tailAt 4 i⟩

theorem filled_l0 {L : Lib} (hL : Plain L) (k v : Int) (n : ByteArray) (l as : List Ty) (hl : as.length < 2 ^ 30)
    (ih : ∀ a ∈ as, ∀ h : Heap, pcall L 44 [.agg [.int .i64 a.kind, .str a.name, .int .i64 a.var, .list (a.args.map encTy) none], .list (l.map encTy) none] h = some (.val (encTy (filled a l)), h)) :
    loopF L.pure (call L) 3 [1, 4, 5, 28, 29, 30] [4, 5] 0 fn44_l0 ⟨kt [1, 4, 5, 28, 29, 30] [.list (l.map encTy) none, .ptr (some (1, 0)), .ptr (some (2, 0)), .list (as.map encTy) none, .int .i64 as.length, .int .i64 0],
      [.box [.int .i64 k, .str n, .int .i64 v, .list (as.map encTy) none], .box [.int .i64 0, .str ⟨#[]⟩, .int .i64 0, .list [] (some none)], .box [.int .i64 k, .str n, .int .i64 0, .list [] (some none)]]⟩ =
    some (.normal, ⟨kt [4, 5] [.ptr (some (1, 0)), .ptr (some (2, 0))], (filled_C k v n l as (as.map fun a => filled a l) as.length).h⟩) := by
  have hp := hL.pure
  refine loopF_count (fun i => filled_C k v n l as ((as.take i).map fun a => filled a l) i) as.length ?_ ?_
  · intro i hi
    have h1 : ((i : Int) < as.length) := by omega
    have hw : IntKind.i64.wrap ((i : Int) + 1) = ((i + 1 : Nat) : Int) := by rw [wrap64 (by omega) (by omega)]; rfl
    have hg : (as.map encTy)[i]? = some (encTy as[i]) := by simp [hi]
    have ih1 := ih as[i] (List.getElem_mem hi)
    have hlen : ((as.take i).map fun a => filled a l).length = i := by simp; omega
    have hnext : ((as.take (i + 1)).map fun a => filled a l) = ((as.take i).map fun a => filled a l) ++ [filled as[i] l] := by rw [List.take_succ_eq_append_getElem hi, List.map_append]; rfl
    rw [hnext]
    generalize ((as.take i).map fun a => filled a l) = outs at hlen
    generalize as[i] = a at ih1 hg
    cases i with
    | zero =>
      obtain rfl := List.eq_nil_of_length_eq_zero hlen
      have h1 : (0 : Int) < as.length := by omega
      have hw : IntKind.i64.wrap 1 = 1 := by decide
      unfold fn44_l0 filled_C
      simp -implicitDefEqProofs only [code_skip, code_ops, code_draw, code_seq, code_cond, code_block, ops_cons, ops_nil, aOp, opd, upd_at, upd_none, kt_cons, stepVal, stepHeap, aBin, aInt, aIndexList, isShift, aWanted, aLoad1, aStore, readAt, aField, leaf, acells_agg, acells_list, cellsSet, gc_mk, gcIds_mk, newIds_nil, newIds_cons, gcMap_at, posOf, ren, renC, renO_box, renO_tail, idsV, idsC, idsO_box, draw_eq, opsH_nil, opsH_cons, isLoud, aAppend, wipe_agg, wipe_list, wipeC_list, wipeC_int, wipeC_str, isData_list_none, isData_list_full, isData_list_tail, isData_int, isData_str, isData_agg, isData_ptr, isDataL_nil, isDataL_cons, Option.map_some, Option.getD_some, List.map_cons, List.map_nil, List.flatMap_cons, List.flatMap_nil, List.length_cons, List.length_nil, List.cons_append, List.nil_append, List.append_nil, List.getElem?_cons_zero, List.getElem?_cons_succ, List.set_cons_zero, List.set_cons_succ, List.take_succ_cons, List.take_zero, List.drop_succ_cons, List.drop_zero, List.take_nil, List.drop_nil, List.all_cons, List.all_nil, List.not_mem_nil, ↓reduceIte, Bool.and_true, Bool.false_eq_true, and_true, not_false_eq_true, decide_true, and_self, Nat.le_refl, Nat.zero_add, Nat.reduceEqDiff, Nat.reduceAdd, Nat.reduceLT, Nat.reduceLeDiff, Int.reduceToNat, Int.reduceLE, List.cons_ne_nil, roundF_eq, maxLen_eq, checksP_nil, drawTo_if, Int.reduceAdd, kt_nil, Int.cast_ofNat_Int, onlyVal, encTy_eq, data_Tys, ownAt_zero, ownAt_succ, tailAt_zero, tailAt_succ, h1, hw, hg, hlen, ih1, doCall_p L hp, hp, encTy_eq, data_Tys, all_Tys, ownAt_zero, tailAt_zero, ownAt_succ, tailAt_succ]
    | succ j =>
      unfold fn44_l0 filled_C
      have hm : j + 1 + 1 ≤ 1073741824 := by omega
      simp -implicitDefEqProofs only [code_skip, code_ops, code_draw, code_seq, code_cond, code_block, ops_cons, ops_nil, aOp, opd, upd_at, upd_none, kt_cons, stepVal, stepHeap, aBin, aInt, aIndexList, isShift, aWanted, aLoad1, aStore, readAt, aField, leaf, acells_agg, acells_list, cellsSet, gc_mk, gcIds_mk, newIds_nil, newIds_cons, gcMap_at, posOf, ren, renC, renO_box, renO_tail, idsV, idsC, idsO_box, draw_eq, opsH_nil, opsH_cons, isLoud, aAppend, wipe_agg, wipe_list, wipeC_list, wipeC_int, wipeC_str, isData_list_none, isData_list_full, isData_list_tail, isData_int, isData_str, isData_agg, isData_ptr, isDataL_nil, isDataL_cons, isDataL_append, Option.map_some, Option.getD_some, List.map_cons, List.map_nil, List.flatMap_cons, List.flatMap_nil, List.length_cons, List.length_nil, List.length_map, List.cons_append, List.nil_append, List.append_nil, List.getElem?_cons_zero, List.getElem?_cons_succ, List.set_cons_zero, List.set_cons_succ, List.take_succ_cons, List.take_zero, List.drop_succ_cons, List.drop_zero, List.take_nil, List.drop_nil, List.all_cons, List.all_nil, List.not_mem_nil, ↓reduceIte, Bool.and_true, Bool.false_eq_true, and_true, not_false_eq_true, decide_true, and_self, Nat.le_refl, Nat.zero_add, Nat.reduceEqDiff, Nat.reduceAdd, Nat.reduceLT, Nat.reduceLeDiff, Int.toNat_natCast, Int.natCast_nonneg, List.cons_ne_nil, roundF_eq, maxLen_eq, checksP_nil, drawTo_if, List.map_append, kt_nil, onlyVal, encTy_eq, data_Tys, all_Tys, ownAt_succ, tailAt_succ, h1, hw, hg, hlen, hm, ih1, doCall_p L hp, hp, encTy_eq, data_Tys, all_Tys, ownAt_zero, tailAt_zero, ownAt_succ, tailAt_succ]
  · unfold fn44_l0 filled_C
    have h0 : ¬ ((as.length : Int) < as.length) := by omega
    rcases own_cases 3 4 as.length with ⟨h1, h2⟩ | ⟨h1, h2⟩ <;>
      simp -implicitDefEqProofs only [code_ops, code_seq, code_cond, code_exit, ops_cons, ops_nil, aOp, opd, upd_at, kt_cons, stepVal, aBin, aInt, isShift, gcE, gc_mk, gcIds_mk, newIds_nil, newIds_cons, gcMap_at, posOf, ren, renC, renO_box, renO_tail, idsV, idsC, idsO_box, isData_list_none, isData_list_full, isData_list_tail, isData_int, isData_str, isData_ptr, isDataL_nil, Option.getD_some, List.map_cons, List.map_nil, List.flatMap_cons, List.flatMap_nil, List.length_cons, List.length_nil, List.cons_append, List.nil_append, List.append_nil, List.getElem?_cons_zero, List.getElem?_cons_succ, List.take_succ_cons, List.take_zero, List.take_nil, List.not_mem_nil, ↓reduceIte, Bool.false_eq_true, and_true, not_false_eq_true, decide_false, and_self, Nat.le_refl, Nat.zero_add, Nat.reduceEqDiff, Nat.reduceAdd, Nat.reduceLT, Nat.reduceLeDiff, roundF_eq, kt_nil, data_Tys, h0, h1, h2, data_Tys, List.take_length]

theorem filled_ok {L : Lib} (hL : Plain L) (hf : L.fns 44 = some fn44) (l : List Ty) (hl : l.length < 2 ^ 30) (t : Ty) (ht : TyOk t) (h : Heap) :
    pcall L 44 [.agg [.int .i64 t.kind, .str t.name, .int .i64 t.var, .list (t.args.map encTy) none], .list (l.map encTy) none] h = some (.val (encTy (filled t l)), h) := by
  have hp := hL.pure
  induction t using Ty.ind generalizing h with
  | h k n v as ih =>
    cases ht with
    | mk hv hl ha =>
    simp only [Ty.kind_mk, Ty.name_mk, Ty.var_mk, Ty.args_mk, filled_eq]
    by_cases hk : k = 0
    · subst hk
      have hv := hv rfl
      rw [if_pos rfl]
      by_cases hlt : v < l.length
      · have hvn : v.toNat < l.length := by omega
        have hg : (l.map encTy)[v.toNat]? = some (encTy l[v.toNat]) := by simp [hvn]
        rw [if_pos hlt, List.getElem?_eq_getElem hvn, Option.getD_some]
        refine pcall_fn hL hf (data_Ty _) ?_ h
        unfold fn44
        simp -implicitDefEqProofs only [code_ops, code_seq, code_cond, code_ret, ops_cons, ops_nil, aOp, opd, upd_at, upd_none, initTm_at, stepVal, stepHeap, aBin, aLen, aInt, aIndexList, isShift, aLoad1, aStore, readAt, aField, leaf, acells_agg, cellsSet, endFn, aResults, aResult, tupled, wipeR_agg, wipeC_list, wipeC_int, wipeC_str, beq_self_eq_true, Option.map_some, Option.getD_some, List.map_cons, List.map_nil, List.length_cons, List.length_nil, List.length_map, List.cons_append, List.nil_append, List.append_nil, List.getElem?_cons_zero, List.getElem?_cons_succ, List.set_cons_zero, List.set_cons_succ, List.take_succ_cons, List.take_zero, List.drop_succ_cons, List.drop_zero, List.take_nil, List.drop_nil, List.all_cons, List.all_nil, ↓reduceIte, Bool.and_true, Bool.false_eq_true, decide_true, and_self, Nat.le_refl, Nat.add_zero, Nat.zero_add, Nat.reduceEqDiff, Nat.reduceAdd, encTy_eq, outOf_val, hlt, hg, hv, encTy_eq, outOf_val]
      · rw [if_neg hlt]
        refine pcall_fn hL hf (data_Ty _) ?_ h
        unfold fn44
        simp -implicitDefEqProofs only [code_skip, code_ops, code_seq, code_cond, code_ret, ops_cons, ops_nil, aOp, opd, upd_at, upd_none, initTm_at, stepVal, stepHeap, aBin, aLen, aInt, isShift, aLoad1, aStore, readAt, aField, leaf, acells_agg, cellsSet, endFn, aResults, aResult, tupled, wipeR_agg, wipeC_list, wipeC_int, wipeC_str, beq_self_eq_true, Option.map_some, Option.getD_some, List.map_cons, List.map_nil, List.length_cons, List.length_nil, List.length_map, List.cons_append, List.nil_append, List.append_nil, List.getElem?_cons_zero, List.getElem?_cons_succ, List.set_cons_zero, List.set_cons_succ, List.take_succ_cons, List.take_zero, List.drop_succ_cons, List.drop_zero, List.take_nil, List.drop_nil, List.all_cons, List.all_nil, ↓reduceIte, Bool.and_true, Bool.false_eq_true, decide_false, and_self, Nat.le_refl, Nat.add_zero, Nat.zero_add, Nat.reduceEqDiff, Nat.reduceAdd, encTy_eq, Ty.kind_mk, Ty.name_mk, Ty.var_mk, Ty.args_mk, outOf_val, hlt, encTy_eq, Ty.kind_mk, Ty.name_mk, Ty.var_mk, Ty.args_mk, outOf_val]
    · rw [if_neg hk]
      have hd : (k == 0) = false := by simpa using hk
      have hloop := filled_l0 hL k v n l as hl (fun a ha' h => ih a ha' (ha a ha') h)
      refine pcall_fn hL hf (data_Ty _) ?_ h
      unfold fn44
      unfold filled_C at hloop
      rcases own_cases 3 4 as.length with ⟨h1, h2⟩ | ⟨h1, h2⟩ <;>
        simp -implicitDefEqProofs only [code_skip, code_ops, code_seq, code_cond, code_ret, ops_cons, ops_nil, aOp, opd, upd_at, upd_none, initTm_at, kt_cons, stepVal, stepHeap, aBin, aLen, aInt, isShift, aLoad1, aStore, readAt, aField, fillA, known, leaf, acells_agg, acells_int, acells_str, cellsSet, endFn, aResults, aResult, tupled, code_loopF, gc_mk, gcIds_mk, newIds_nil, newIds_cons, gcMap_at, posOf, ren, renC, renO_box, idsV, idsC, idsO_box, wipeR_agg, wipeC_list, wipeC_int, wipeC_str, isData_list_none, isData_list_full, isData_int, isData_str, isData_ptr, isDataL_nil, Option.map_some, Option.getD_some, List.map_cons, List.map_nil, List.flatMap_cons, List.flatMap_nil, List.length_cons, List.length_nil, List.length_map, List.cons_append, List.nil_append, List.append_nil, List.getElem?_cons_zero, List.getElem?_cons_succ, List.set_cons_zero, List.set_cons_succ, List.take_succ_cons, List.take_zero, List.drop_succ_cons, List.drop_zero, List.take_nil, List.drop_nil, List.all_cons, List.all_nil, List.not_mem_nil, ↓reduceIte, Bool.and_true, Bool.false_eq_true, and_true, not_false_eq_true, and_self, Nat.le_refl, Nat.add_zero, Nat.zero_add, Nat.reduceEqDiff, Nat.reduceAdd, Nat.reduceLT, Nat.reduceLeDiff, encTy_eq, data_Tys, Ty.kind_mk, Ty.name_mk, Ty.var_mk, Ty.args_mk, outOf_val, hd, hloop, data_Tys, h1, h2, outOf_val, encTy_eq, Ty.kind_mk, Ty.name_mk, Ty.var_mk, Ty.args_mk]
end Go.Abs
