/-
  What the functions that build types and schemes answer. Conditions: none.
-/
import Derived.Test.YtlielgleabghlaaDoorSigK

set_option linter.unusedVariables false
set_option linter.unusedSimpArgs false
set_option maxRecDepth 100000
set_option maxHeartbeats 4000000
namespace Go.Abs

/-! ### Replacing constructors -/
def substAt (l : List SigMap) (n : ByteArray) (args : List Ty) (dflt : Ty) : Ty :=
  match l with
  | [] => dflt
  | m :: ms => if m.name = n then filled m.type args else substAt ms n args dflt
def subst (l : List SigMap) : Ty → Ty
  | .mk k n v as => if k = 1 then substAt l n (as.attach.map fun a => subst l a.1) (.mk k n v (as.attach.map fun a => subst l a.1)) else .mk k n v (as.attach.map fun a => subst l a.1)
  termination_by t => SizeOf.sizeOf t
  decreasing_by
    all_goals
      have := Ty.mem_size a.2
      simp only [Ty.mk.sizeOf_spec]
      omega
theorem subst_eq (l : List SigMap) (k : Int) (n : ByteArray) (v : Int) (as : List Ty) : subst l (.mk k n v as) = if k = 1 then substAt l n (as.map (subst l)) (.mk k n v (as.map (subst l))) else .mk k n v (as.map (subst l)) := by
  rw [subst]
  simp

def sub_C (k v : Int) (n : ByteArray) (l : List SigMap) (as outs : List Ty) (i : Nat) : St :=
  ⟨kt [1, 2, 4, 5, 18, 19, 20] [.list (l.map encMap) none, .ptr (some (0, 0)), .ptr (some (1, 0)), .ptr (some (2, 0)), .list (as.map encTy) none, .int .i64 as.length, .int .i64 i],
   .box [.int .i64 k, .str n, .int .i64 v, .list (as.map encTy) none] :: .box [.int .i64 0, .str ⟨#[]⟩, .int .i64 0, .list [] (some none)] :: .box [.int .i64 k, .str n, .int .i64 v, .list (outs.map encTy) (ownAt 3 i)] :: tailAt 4 i⟩

theorem subst_l0 {L : Lib} (hL : Plain L) (k v : Int) (n : ByteArray) (l : List SigMap) (as : List Ty) (hl : as.length < 2 ^ 30)
    (ih : ∀ a ∈ as, ∀ h : Heap, pcall L 15 [.agg [.int .i64 a.kind, .str a.name, .int .i64 a.var, .list (a.args.map encTy) none], .list (l.map encMap) none] h = some (.val (encTy (subst l a)), h)) :
    loopF L.pure (call L) 3 [1, 2, 4, 5, 18, 19, 20] [1, 2, 4, 5] 0 fn15_l0 (sub_C k v n l as [] 0) =
    some (.normal, ⟨kt [1, 2, 4, 5] [.list (l.map encMap) none, .ptr (some (0, 0)), .ptr (some (1, 0)), .ptr (some (2, 0))], (sub_C k v n l as (as.map (subst l)) as.length).h⟩) := by
  have hp := hL.pure
  refine loopF_append as (subst l) (sub_C k v n l as) _ (by
      intro i hi outs hlen
      obtain ⟨h1, h2, h3⟩ := round_facts encTy (as) hl i hi
      have hm : i + 1 ≤ 1073741824 := by omega
      have ih1 := ih as[i] (List.getElem_mem hi)
      cases i with
      | zero =>
        obtain rfl := List.eq_nil_of_length_eq_zero hlen
        have h1 : (0 : Int) < (as).length := by omega
        have h2 : IntKind.i64.wrap 1 = 1 := by decide
        generalize (as)[0] = a at *
        unfold fn15_l0 sub_C
        simp -implicitDefEqProofs only [code_skip, code_ops, code_draw, code_seq, code_cond, code_block, ops_cons, ops_nil, aOp, opd, upd_at, upd_none, kt_cons, stepVal, stepHeap, aBin, aInt, aIndexList, isShift, aWanted, aLoad1, aStore, readAt, aField, leaf, acells_agg, acells_list, cellsSet, gc_mk, gcIds_mk, newIds_nil, newIds_cons, gcMap_at, posOf, ren, renC, renO_box, renO_tail, idsV, idsC, idsO_box, draw_eq, opsH_nil, opsH_cons, isLoud, aAppend, wipe_agg, wipe_list, wipeC_list, wipeC_int, wipeC_str, isData_list_none, isData_list_full, isData_list_tail, isData_int, isData_str, isData_agg, isData_ptr, isDataL_nil, isDataL_cons, Option.map_some, Option.getD_some, List.map_cons, List.map_nil, List.flatMap_cons, List.flatMap_nil, List.length_cons, List.length_nil, List.cons_append, List.nil_append, List.append_nil, List.getElem?_cons_zero, List.getElem?_cons_succ, List.set_cons_zero, List.set_cons_succ, List.take_succ_cons, List.take_zero, List.drop_succ_cons, List.drop_zero, List.take_nil, List.drop_nil, List.all_cons, List.all_nil, List.not_mem_nil, ↓reduceIte, Bool.and_true, Bool.false_eq_true, and_true, not_false_eq_true, decide_true, and_self, Nat.le_refl, Nat.zero_add, Nat.reduceEqDiff, Nat.reduceAdd, Nat.reduceLT, Nat.reduceLeDiff, Int.reduceToNat, Int.reduceLE, List.cons_ne_nil, roundF_eq, maxLen_eq, checksP_nil, drawTo_if, Int.reduceAdd, kt_nil, Int.cast_ofNat_Int, onlyVal, encTy_eq, data_Tys, data_Maps, ownAt_zero, ownAt_succ, tailAt_zero, tailAt_succ, h1, h2, h3, ih1, doCall_p L hp, hp]
      | succ j =>
        generalize (as)[j + 1] = a at *
        unfold fn15_l0 sub_C
        simp -implicitDefEqProofs only [code_skip, code_ops, code_draw, code_seq, code_cond, code_block, ops_cons, ops_nil, aOp, opd, upd_at, upd_none, kt_cons, stepVal, stepHeap, aBin, aInt, aIndexList, isShift, aWanted, aLoad1, aStore, readAt, aField, leaf, acells_agg, acells_list, cellsSet, gc_mk, gcIds_mk, newIds_nil, newIds_cons, gcMap_at, posOf, ren, renC, renO_box, renO_tail, idsV, idsC, idsO_box, draw_eq, opsH_nil, opsH_cons, isLoud, aAppend, wipe_agg, wipe_list, wipeC_list, wipeC_int, wipeC_str, isData_list_none, isData_list_full, isData_list_tail, isData_int, isData_str, isData_agg, isData_ptr, isDataL_nil, isDataL_cons, isDataL_append, Option.map_some, Option.getD_some, List.map_cons, List.map_nil, List.flatMap_cons, List.flatMap_nil, List.length_cons, List.length_nil, List.length_map, List.cons_append, List.nil_append, List.append_nil, List.getElem?_cons_zero, List.getElem?_cons_succ, List.set_cons_zero, List.set_cons_succ, List.take_succ_cons, List.take_zero, List.drop_succ_cons, List.drop_zero, List.take_nil, List.drop_nil, List.all_cons, List.all_nil, List.not_mem_nil, ↓reduceIte, Bool.and_true, Bool.false_eq_true, and_true, not_false_eq_true, decide_true, and_self, Nat.le_refl, Nat.zero_add, Nat.reduceEqDiff, Nat.reduceAdd, Nat.reduceLT, Nat.reduceLeDiff, Int.toNat_natCast, Int.natCast_nonneg, List.cons_ne_nil, roundF_eq, maxLen_eq, checksP_nil, drawTo_if, List.map_append, kt_nil, onlyVal, encTy_eq, data_Tys, data_Maps, all_Tys, ownAt_succ, tailAt_succ, h1, h2, h3, hlen, hm, ih1, doCall_p L hp, hp]) (by
      have h0 : ¬ (((as).length : Int) < (as).length) := by omega
      unfold fn15_l0 sub_C
      rcases own_cases 3 4 (as).length with ⟨h1, h2⟩ | ⟨h1, h2⟩ <;>
        simp -implicitDefEqProofs only [code_ops, code_seq, code_cond, code_exit, ops_cons, ops_nil, aOp, opd, upd_at, kt_cons, stepVal, aBin, aInt, isShift, gcE, gc_mk, gcIds_mk, newIds_nil, newIds_cons, gcMap_at, posOf, ren, renC, renO_box, renO_tail, idsV, idsC, idsO_box, isData_list_none, isData_list_full, isData_list_tail, isData_int, isData_str, isData_ptr, isDataL_nil, Option.getD_some, List.map_cons, List.map_nil, List.flatMap_cons, List.flatMap_nil, List.length_cons, List.length_nil, List.cons_append, List.nil_append, List.append_nil, List.getElem?_cons_zero, List.getElem?_cons_succ, List.take_succ_cons, List.take_zero, List.take_nil, List.not_mem_nil, ↓reduceIte, Bool.false_eq_true, and_true, not_false_eq_true, decide_false, and_self, Nat.le_refl, Nat.zero_add, Nat.reduceEqDiff, Nat.reduceAdd, Nat.reduceLT, Nat.reduceLeDiff, roundF_eq, kt_nil, data_Tys, data_Maps, h0, h1, h2, hp])

theorem subst_l1 {L : Lib} (hL : Plain L) (h44 : L.fns 44 = some fn44) (n : ByteArray) (v : Int) (l : List SigMap) (hl : l.length < 2 ^ 30) (hok : ∀ m ∈ l, TyOk m.type) (as outs : List Ty) (ho : outs.length < 2 ^ 30) (own : Option (Option Nat)) (T : Heap)
    (hT : (own = some none ∧ T = []) ∨ (own = some (some 3) ∧ T = [.tail outs.length 4])) :
    loopF L.pure (call L) (3 + T.length) [2, 4, 5, 36, 37, 38] [4, 5] 2 fn15_l1 ⟨kt [2, 4, 5, 36, 37, 38] [.ptr (some (0, 0)), .ptr (some (1, 0)), .ptr (some (2, 0)), .list (l.map encMap) none, .int .i64 l.length, .int .i64 ((0 : Nat) : Int)],
      .box [.int .i64 1, .str n, .int .i64 v, .list (as.map encTy) none] :: .box [.int .i64 0, .str ⟨#[]⟩, .int .i64 0, .list [] (some none)] :: .box [.int .i64 1, .str n, .int .i64 v, .list (outs.map encTy) own] :: T⟩ =
    some (fromFind (fun t => ⟨kt [4, 5] [.ptr (some (1, 0)), .ptr (some (2, 0))], .box [.int .i64 1, .str n, .int .i64 v, .list (as.map encTy) none] :: .box [.int .i64 t.kind, .str t.name, .int .i64 t.var, .list (t.args.map encTy) none] :: .box [.int .i64 1, .str n, .int .i64 v, .list (outs.map encTy) own] :: T⟩)
      ⟨kt [4, 5] [.ptr (some (1, 0)), .ptr (some (2, 0))], .box [.int .i64 1, .str n, .int .i64 v, .list (as.map encTy) none] :: .box [.int .i64 0, .str ⟨#[]⟩, .int .i64 0, .list [] (some none)] :: .box [.int .i64 1, .str n, .int .i64 v, .list (outs.map encTy) own] :: T⟩
      (findFrom (fun _ m => if decide (m.name = n) = true then some (filled m.type outs) else none) l 0)) := by
  have hp := hL.pure
  refine loopF_find l (fun _ m => if decide (m.name = n) = true then some (filled m.type outs) else none) (fun i => ⟨kt [2, 4, 5, 36, 37, 38] [.ptr (some (0, 0)), .ptr (some (1, 0)), .ptr (some (2, 0)), .list (l.map encMap) none, .int .i64 l.length, .int .i64 i],
      .box [.int .i64 1, .str n, .int .i64 v, .list (as.map encTy) none] :: .box [.int .i64 0, .str ⟨#[]⟩, .int .i64 0, .list [] (some none)] :: .box [.int .i64 1, .str n, .int .i64 v, .list (outs.map encTy) own] :: T⟩)
      ⟨kt [4, 5] [.ptr (some (1, 0)), .ptr (some (2, 0))], _⟩
      (fun t => ⟨kt [4, 5] [.ptr (some (1, 0)), .ptr (some (2, 0))], .box [.int .i64 1, .str n, .int .i64 v, .list (as.map encTy) none] :: .box [.int .i64 t.kind, .str t.name, .int .i64 t.var, .list (t.args.map encTy) none] :: .box [.int .i64 1, .str n, .int .i64 v, .list (outs.map encTy) own] :: T⟩) ?_ ?_ ?_
  · intro i hi hq
    obtain ⟨h1, h2, h3⟩ := round_facts encMap l hl i hi
    have h6 : decide (l[i].name = n) = false := by cases hx : decide (l[i].name = n) <;> simp [hx] at hq ⊢
    generalize l[i] = a at *
    unfold fn15_l1
    rcases hT with ⟨rfl, rfl⟩ | ⟨rfl, rfl⟩ <;> simp -implicitDefEqProofs only [code_skip, code_ops, code_seq, code_cond, code_block, ops_cons, ops_nil, aOp, opd, upd_at, upd_none, kt_cons, stepVal, stepHeap, aBin, aStr, aInt, aIndexList, isShift, aLoad1, aStore, readAt, aField, leaf, acells_agg, cellsSet, gc_mk, gcIds_mk, newIds_nil, newIds_cons, gcMap_at, posOf, ren, renC, renO_box, renO_tail, idsV, idsC, idsO_box, idsO_tail, isData_list_none, isData_list_full, isData_list_tail, isData_int, isData_str, isData_ptr, isDataL_nil, Option.map_some, List.map_cons, List.map_nil, List.flatMap_cons, List.flatMap_nil, List.length_cons, List.length_nil, List.cons_append, List.nil_append, List.append_nil, List.getElem?_cons_zero, List.getElem?_cons_succ, List.set_cons_zero, List.set_cons_succ, List.take_succ_cons, List.take_zero, List.drop_succ_cons, List.drop_zero, List.take_nil, List.drop_nil, List.all_cons, List.all_nil, List.not_mem_nil, ↓reduceIte, Bool.and_true, Bool.false_eq_true, and_true, not_false_eq_true, decide_true, and_self, Nat.le_refl, Nat.add_zero, Nat.zero_add, Nat.reduceEqDiff, Nat.reduceAdd, Nat.reduceLT, Nat.reduceLeDiff, Int.toNat_natCast, Int.natCast_nonneg, roundF_eq, kt_nil, encMap_eq, data_Tys, data_Maps, h1, h2, h3, h6, doCall_p L hp, hp]
  · intro i hi r hq
    obtain ⟨h1, h2, h3⟩ := round_facts encMap l hl i hi
    have h6 : decide (l[i].name = n) = true := by cases hx : decide (l[i].name = n) <;> simp [hx] at hq ⊢
    have h7 : filled l[i].type outs = r := by simpa [h6] using hq
    have hfi := filled_ok hL h44 outs ho l[i].type (hok _ (List.getElem_mem hi))
    rw [h7] at hfi
    generalize l[i] = a at *
    unfold fn15_l1
    rcases hT with ⟨rfl, rfl⟩ | ⟨rfl, rfl⟩ <;> simp -implicitDefEqProofs only [code_skip, code_ops, code_seq, code_cond, code_block, code_ret, ops_cons, ops_nil, aOp, opd, upd_at, upd_none, kt_cons, stepVal, stepHeap, aBin, aStr, aInt, aIndexList, isShift, aLoad1, aStore, readAt, aField, leaf, acells_agg, cellsSet, gcE, gc_mk, gcIds_mk, newIds_nil, newIds_cons, gcMap_at, posOf, ren, renC, renO_box, renO_tail, idsV, idsC, idsO_box, idsO_tail, wipe_agg, wipe_list, wipeC_list, wipeC_int, wipeC_str, isData_list_none, isData_list_full, isData_list_tail, isData_int, isData_str, isData_agg, isData_ptr, isDataL_nil, isDataL_cons, Option.map_some, List.map_cons, List.map_nil, List.flatMap_cons, List.flatMap_nil, List.length_cons, List.length_nil, List.cons_append, List.nil_append, List.append_nil, List.getElem?_cons_zero, List.getElem?_cons_succ, List.set_cons_zero, List.set_cons_succ, List.take_succ_cons, List.take_zero, List.drop_succ_cons, List.drop_zero, List.take_nil, List.drop_nil, List.all_cons, List.all_nil, List.not_mem_nil, ↓reduceIte, Bool.and_true, Bool.false_eq_true, and_true, not_false_eq_true, decide_true, and_self, Nat.le_refl, Nat.add_zero, Nat.zero_add, Nat.reduceEqDiff, Nat.reduceAdd, Nat.reduceLT, Nat.reduceLeDiff, Int.toNat_natCast, Int.natCast_nonneg, roundF_eq, kt_nil, onlyVal, encTy_eq, encMap_eq, data_Tys, h1, h2, h3, h6, hfi, doCall_p L hp, hp]
  · have h0 : ¬ ((l.length : Int) < l.length) := by omega
    unfold fn15_l1
    rcases hT with ⟨rfl, rfl⟩ | ⟨rfl, rfl⟩ <;> simp -implicitDefEqProofs only [code_ops, code_seq, code_cond, code_exit, ops_cons, ops_nil, aOp, opd, upd_at, kt_cons, stepVal, aBin, aInt, isShift, gcE, gc_mk, gcIds_mk, newIds_nil, newIds_cons, gcMap_at, posOf, ren, renC, renO_box, renO_tail, idsV, idsC, idsO_box, idsO_tail, isData_list_none, isData_list_full, isData_list_tail, isData_int, isData_str, isData_ptr, isDataL_nil, List.map_cons, List.map_nil, List.flatMap_cons, List.flatMap_nil, List.length_cons, List.length_nil, List.cons_append, List.nil_append, List.append_nil, List.take_succ_cons, List.take_nil, List.not_mem_nil, ↓reduceIte, Bool.false_eq_true, and_true, not_false_eq_true, decide_false, Nat.le_refl, Nat.add_zero, Nat.zero_add, Nat.reduceEqDiff, Nat.reduceAdd, Nat.reduceLT, Nat.reduceLeDiff, roundF_eq, kt_nil, data_Tys, h0]

theorem substAt_find (n : ByteArray) (outs : List Ty) (d : Ty) : ∀ (l : List SigMap) (i : Nat), substAt l n outs d = (findFrom (fun _ m => if decide (m.name = n) = true then some (filled m.type outs) else none) l i).getD d
  | [], i => rfl
  | m :: ms, i => by
    rw [substAt, findFrom]
    by_cases h : m.name = n
    · simp [h]
    · simp only [h, if_false, decide_false, Bool.false_eq_true]
      exact substAt_find n outs d ms (i + 1)

theorem subst_ok {L : Lib} (hL : Plain L) (h44 : L.fns 44 = some fn44) (hf : L.fns 15 = some fn15) (l : List SigMap) (hl : l.length < 2 ^ 30) (hok : ∀ m ∈ l, TyOk m.type) (t : Ty) (ht : TyFit t) : ∀ h : Heap,
    pcall L 15 [.agg [.int .i64 t.kind, .str t.name, .int .i64 t.var, .list (t.args.map encTy) none], .list (l.map encMap) none] h = some (.val (encTy (subst l t)), h) := by
  have hp := hL.pure
  induction t using Ty.ind with
  | h k n v as ih =>
    cases ht with
    | mk hla ha =>
    intro h
    have hloop := subst_l0 hL k v n l as hla (fun a ha' h => ih a ha' (ha a ha') h)
    unfold sub_C at hloop
    simp only [Int.natCast_zero, ownAt_zero, tailAt_zero, List.map_nil] at hloop
    simp only [Ty.kind_mk, Ty.name_mk, Ty.var_mk, Ty.args_mk]
    rw [subst_eq]
    by_cases hk : k = 1
    · subst hk
      have hA := subst_l1 hL h44 n v l hl hok as (as.map (subst l)) (by simpa using hla) (some none) [] (.inl ⟨rfl, rfl⟩)
      have hB := subst_l1 hL h44 n v l hl hok as (as.map (subst l)) (by simpa using hla) (some (some 3)) _ (.inr ⟨rfl, rfl⟩)
      rw [if_pos rfl, substAt_find n _ _ l 0]
      simp only [List.length_nil, List.length_cons, List.length_map, Nat.add_zero, Nat.zero_add, Nat.reduceAdd, Int.natCast_zero] at hA hB
      refine pcall_fn hL hf (data_Ty _) ?_ h
      unfold fn15
      cases hq : findFrom (fun _ m => if decide (m.name = n) = true then some (filled m.type (as.map (subst l))) else none) l 0 with
      | none =>
        rw [hq] at hA hB
        simp only [fromFind] at hA hB
        rcases own_cases 3 4 as.length with ⟨h1, h2⟩ | ⟨h1, h2⟩ <;> simp -implicitDefEqProofs only [code_ops, code_seq, code_cond, code_ret, ops_cons, ops_nil, aOp, opd, upd_at, upd_none, initTm_at, kt_cons, stepVal, stepHeap, aBin, aLen, aInt, isShift, aLoad1, aStore, readAt, aField, fillA, known, leaf, acells_agg, acells_int, acells_str, cellsSet, endFn, aResults, aResult, tupled, code_loopF, gc_mk, gcIds_mk, newIds_nil, newIds_cons, gcMap_at, posOf, ren, renC, renO_box, renO_tail, idsV, idsC, idsO_box, idsO_tail, wipeR_agg, wipeC_list, wipeC_int, wipeC_str, isData_list_none, isData_list_full, isData_list_tail, isData_int, isData_str, isData_ptr, isDataL_nil, beq_self_eq_true, Option.map_some, Option.getD_some, Option.getD_none, List.map_cons, List.map_nil, List.flatMap_cons, List.flatMap_nil, List.length_cons, List.length_nil, List.length_map, List.cons_append, List.nil_append, List.append_nil, List.getElem?_cons_zero, List.getElem?_cons_succ, List.set_cons_zero, List.set_cons_succ, List.take_succ_cons, List.take_zero, List.drop_succ_cons, List.drop_zero, List.take_nil, List.drop_nil, List.all_cons, List.all_nil, List.not_mem_nil, ↓reduceIte, Bool.and_true, Bool.false_eq_true, and_true, not_false_eq_true, and_self, Nat.le_refl, Nat.add_zero, Nat.zero_add, Nat.reduceEqDiff, Nat.reduceAdd, Nat.reduceLT, Nat.reduceLeDiff, kt_nil, encTy_eq, data_Tys, data_Maps, Ty.kind_mk, Ty.name_mk, Ty.var_mk, Ty.args_mk, outOf_val, hloop, hA, hB, h1, h2]
      | some r =>
        rw [hq] at hA hB
        simp only [fromFind] at hA hB
        rcases own_cases 3 4 as.length with ⟨h1, h2⟩ | ⟨h1, h2⟩ <;> simp -implicitDefEqProofs only [code_ops, code_seq, code_cond, ops_cons, ops_nil, aOp, opd, upd_at, upd_none, initTm_at, kt_cons, stepVal, stepHeap, aBin, aLen, aInt, isShift, aLoad1, aStore, readAt, aField, fillA, known, leaf, acells_agg, acells_int, acells_str, cellsSet, endFn, aResults, aResult, tupled, code_loopF, gc_mk, gcIds_mk, newIds_nil, newIds_cons, gcMap_at, posOf, ren, renC, renO_box, renO_tail, idsV, idsC, idsO_box, idsO_tail, wipeR_agg, wipeC_list, wipeC_int, wipeC_str, isData_list_none, isData_list_full, isData_list_tail, isData_int, isData_str, isData_ptr, isDataL_nil, beq_self_eq_true, Option.map_some, Option.getD_some, List.map_cons, List.map_nil, List.flatMap_cons, List.flatMap_nil, List.length_cons, List.length_nil, List.length_map, List.cons_append, List.nil_append, List.append_nil, List.getElem?_cons_zero, List.getElem?_cons_succ, List.set_cons_zero, List.set_cons_succ, List.take_succ_cons, List.take_zero, List.drop_succ_cons, List.drop_zero, List.take_nil, List.drop_nil, List.all_cons, List.all_nil, List.not_mem_nil, ↓reduceIte, Bool.and_true, Bool.false_eq_true, and_true, not_false_eq_true, and_self, Nat.le_refl, Nat.add_zero, Nat.zero_add, Nat.reduceEqDiff, Nat.reduceAdd, Nat.reduceLT, Nat.reduceLeDiff, kt_nil, encTy_eq, data_Tys, data_Maps, outOf_val, hloop, hA, hB, h1, h2]
    · rw [if_neg hk]
      have hd : (k == 1) = false := by simpa using hk
      refine pcall_fn hL hf (data_Ty _) ?_ h
      unfold fn15
      rcases own_cases 3 4 as.length with ⟨h1, h2⟩ | ⟨h1, h2⟩ <;> simp -implicitDefEqProofs only [code_skip, code_ops, code_seq, code_cond, code_ret, ops_cons, ops_nil, aOp, opd, upd_at, upd_none, initTm_at, kt_cons, stepVal, stepHeap, aBin, aLen, aInt, isShift, aLoad1, aStore, readAt, aField, fillA, known, leaf, acells_agg, acells_int, acells_str, cellsSet, endFn, aResults, aResult, tupled, code_loopF, gc_mk, gcIds_mk, newIds_nil, newIds_cons, gcMap_at, posOf, ren, renC, renO_box, idsV, idsC, idsO_box, wipeR_agg, wipeC_list, wipeC_int, wipeC_str, isData_list_none, isData_list_full, isData_int, isData_str, isData_ptr, isDataL_nil, Option.map_some, Option.getD_some, List.map_cons, List.map_nil, List.flatMap_cons, List.flatMap_nil, List.length_cons, List.length_nil, List.length_map, List.cons_append, List.nil_append, List.append_nil, List.getElem?_cons_zero, List.getElem?_cons_succ, List.set_cons_zero, List.set_cons_succ, List.take_succ_cons, List.take_zero, List.drop_succ_cons, List.drop_zero, List.take_nil, List.drop_nil, List.all_cons, List.all_nil, List.not_mem_nil, ↓reduceIte, Bool.and_true, Bool.false_eq_true, and_true, not_false_eq_true, and_self, Nat.le_refl, Nat.add_zero, Nat.zero_add, Nat.reduceEqDiff, Nat.reduceAdd, Nat.reduceLT, Nat.reduceLeDiff, encTy_eq, data_Tys, data_Maps, Ty.kind_mk, Ty.name_mk, Ty.var_mk, Ty.args_mk, outOf_val, hd, hloop, h1, h2]

/-! ### Schemes, variables, maps -/
def mapped (s : Scheme) (l : List SigMap) : Scheme := ⟨s.vars, s.preds.map fun p => ⟨p.cls, subst l p.type⟩, subst l s.type⟩
def mapped_C (s : Scheme) (t : Ty) (l : List SigMap) (ps : List Pred) (outs : List Pred) (i : Nat) : St :=
  ⟨kt [1, 4, 5, 16, 17, 18] [.list (l.map encMap) none, .ptr (some (1, 0)), .ptr (some (2, 0)), .list (ps.map encPred) none, .int .i64 ps.length, .int .i64 i],
   .box [.int .i64 s.vars, .list (ps.map encPred) none, .int .i64 s.type.kind, .str s.type.name, .int .i64 s.type.var, .list (s.type.args.map encTy) none] :: .box [.int .i64 0, .list [] (some none), .int .i64 0, .str ⟨#[]⟩, .int .i64 0, .list [] (some none)] ::
    .box [.int .i64 s.vars, .list (outs.map encPred) (ownAt 3 i), .int .i64 t.kind, .str t.name, .int .i64 t.var, .list (t.args.map encTy) none] :: tailAt 5 i⟩
theorem mapped_l0 {L : Lib} (hL : Plain L) (s : Scheme) (t : Ty) (l : List SigMap) (ps : List Pred) (hl : ps.length < 2 ^ 30)
    (hs : ∀ p ∈ ps, ∀ h : Heap, pcall L 15 [.agg [.int .i64 p.type.kind, .str p.type.name, .int .i64 p.type.var, .list (p.type.args.map encTy) none], .list (l.map encMap) none] h = some (.val (encTy (subst l p.type)), h)) :
    loopF L.pure (call L) 3 [1, 4, 5, 16, 17, 18] [4, 5] 0 fn36_l0 (mapped_C s t l ps [] 0) =
    some (.normal, ⟨kt [4, 5] [.ptr (some (1, 0)), .ptr (some (2, 0))], (mapped_C s t l ps (ps.map fun p => ⟨p.cls, subst l p.type⟩) ps.length).h⟩) := by
  have hp := hL.pure
  refine loopF_append ps (fun p => (⟨p.cls, subst l p.type⟩ : Pred)) (mapped_C s t l ps) _ (by
      intro i hi outs hlen
      obtain ⟨h1, h2, h3⟩ := round_facts encPred (ps) hl i hi
      have hm : i + 1 ≤ 1073741824 := by omega
      have ih1 := hs ps[i] (List.getElem_mem hi)
      cases i with
      | zero =>
        obtain rfl := List.eq_nil_of_length_eq_zero hlen
        have h1 : (0 : Int) < (ps).length := by omega
        have h2 : IntKind.i64.wrap 1 = 1 := by decide
        generalize (ps)[0] = a at *
        unfold fn36_l0 mapped_C
        simp -implicitDefEqProofs only [code_skip, code_ops, code_draw, code_seq, code_cond, code_block, ops_cons, ops_nil, aOp, opd, upd_at, upd_none, kt_cons, stepVal, stepHeap, aBin, aInt, aIndexList, isShift, aWanted, aLoad1, aStore, readAt, aField, fillA, known, leaf, acells_agg, acells_str, acells_list, cellsSet, gc_mk, gcIds_mk, newIds_nil, newIds_cons, gcMap_at, posOf, ren, renC, renO_box, renO_tail, idsV, idsC, idsO_box, draw_eq, opsH_nil, opsH_cons, isLoud, aAppend, wipe_agg, wipe_list, wipeC_list, wipeC_int, wipeC_str, isData_list_none, isData_list_full, isData_list_tail, isData_int, isData_str, isData_agg, isData_ptr, isDataL_nil, isDataL_cons, Option.map_some, Option.getD_some, List.map_cons, List.map_nil, List.flatMap_cons, List.flatMap_nil, List.length_cons, List.length_nil, List.cons_append, List.nil_append, List.append_nil, List.getElem?_cons_zero, List.getElem?_cons_succ, List.set_cons_zero, List.set_cons_succ, List.take_succ_cons, List.take_zero, List.drop_succ_cons, List.drop_zero, List.take_nil, List.drop_nil, List.all_cons, List.all_nil, List.not_mem_nil, ↓reduceIte, Bool.and_true, Bool.false_eq_true, and_true, not_false_eq_true, decide_true, and_self, Nat.le_refl, Nat.add_zero, Nat.zero_add, Nat.reduceEqDiff, Nat.reduceAdd, Nat.reduceLT, Nat.reduceLeDiff, Int.reduceToNat, Int.reduceLE, List.cons_ne_nil, roundF_eq, maxLen_eq, checksP_nil, drawTo_if, Int.reduceAdd, kt_nil, Int.cast_ofNat_Int, onlyVal, encTy_eq, encPred_eq, data_Tys, data_Preds, data_Maps, ownAt_zero, ownAt_succ, tailAt_zero, tailAt_succ, h1, h2, h3, ih1, doCall_p L hp, hp]
      | succ j =>
        generalize (ps)[j + 1] = a at *
        unfold fn36_l0 mapped_C
        simp -implicitDefEqProofs only [code_skip, code_ops, code_draw, code_seq, code_cond, code_block, ops_cons, ops_nil, aOp, opd, upd_at, upd_none, kt_cons, stepVal, stepHeap, aBin, aInt, aIndexList, isShift, aWanted, aLoad1, aStore, readAt, aField, fillA, known, leaf, acells_agg, acells_str, acells_list, cellsSet, gc_mk, gcIds_mk, newIds_nil, newIds_cons, gcMap_at, posOf, ren, renC, renO_box, renO_tail, idsV, idsC, idsO_box, draw_eq, opsH_nil, opsH_cons, isLoud, aAppend, wipe_agg, wipe_list, wipeC_list, wipeC_int, wipeC_str, isData_list_none, isData_list_full, isData_list_tail, isData_int, isData_str, isData_agg, isData_ptr, isDataL_nil, isDataL_cons, isDataL_append, Option.map_some, Option.getD_some, List.map_cons, List.map_nil, List.flatMap_cons, List.flatMap_nil, List.length_cons, List.length_nil, List.length_map, List.cons_append, List.nil_append, List.append_nil, List.getElem?_cons_zero, List.getElem?_cons_succ, List.set_cons_zero, List.set_cons_succ, List.take_succ_cons, List.take_zero, List.drop_succ_cons, List.drop_zero, List.take_nil, List.drop_nil, List.all_cons, List.all_nil, List.not_mem_nil, ↓reduceIte, Bool.and_true, Bool.false_eq_true, and_true, not_false_eq_true, decide_true, and_self, Nat.le_refl, Nat.add_zero, Nat.zero_add, Nat.reduceEqDiff, Nat.reduceAdd, Nat.reduceLT, Nat.reduceLeDiff, Int.toNat_natCast, Int.natCast_nonneg, List.cons_ne_nil, roundF_eq, maxLen_eq, checksP_nil, drawTo_if, List.map_append, kt_nil, onlyVal, encTy_eq, encPred_eq, data_Tys, data_Preds, data_Maps, all_Preds, ownAt_succ, tailAt_succ, h1, h2, h3, hlen, hm, ih1, doCall_p L hp, hp]) (by
      have h0 : ¬ (((ps).length : Int) < (ps).length) := by omega
      unfold fn36_l0 mapped_C
      rcases own_cases 3 5 (ps).length with ⟨h1, h2⟩ | ⟨h1, h2⟩ <;>
        simp -implicitDefEqProofs only [code_ops, code_seq, code_cond, code_exit, ops_cons, ops_nil, aOp, opd, upd_at, kt_cons, stepVal, aBin, aInt, isShift, gcE, gc_mk, gcIds_mk, newIds_nil, newIds_cons, gcMap_at, posOf, ren, renC, renO_box, renO_tail, idsV, idsC, idsO_box, isData_list_none, isData_list_full, isData_list_tail, isData_int, isData_str, isData_ptr, isDataL_nil, Option.getD_some, List.map_cons, List.map_nil, List.flatMap_cons, List.flatMap_nil, List.length_cons, List.length_nil, List.cons_append, List.nil_append, List.append_nil, List.getElem?_cons_zero, List.getElem?_cons_succ, List.take_succ_cons, List.take_zero, List.take_nil, List.not_mem_nil, ↓reduceIte, Bool.false_eq_true, and_true, not_false_eq_true, decide_false, and_self, Nat.le_refl, Nat.zero_add, Nat.reduceEqDiff, Nat.reduceAdd, Nat.reduceLT, Nat.reduceLeDiff, roundF_eq, kt_nil, data_Tys, data_Preds, h0, h1, h2, hp])
theorem mapped_ok {L : Lib} (hL : Plain L) (h44 : L.fns 44 = some fn44) (h15 : L.fns 15 = some fn15) (hf : L.fns 36 = some fn36) (l : List SigMap) (hl : l.length < 2 ^ 30) (hok : ∀ m ∈ l, TyOk m.type) (s : Scheme) (hs : s.preds.length < 2 ^ 30) (ht : TyFit s.type) (hps : ∀ p ∈ s.preds, TyFit p.type) (h : Heap) :
    pcall L 36 [.agg [.int .i64 s.vars, .list (s.preds.map encPred) none, .int .i64 s.type.kind, .str s.type.name, .int .i64 s.type.var, .list (s.type.args.map encTy) none], .list (l.map encMap) none] h = some (.val (encScheme (mapped s l)), h) := by
  have hp := hL.pure
  have hsub := subst_ok hL h44 h15 l hl hok s.type ht
  have hloop := mapped_l0 hL s (subst l s.type) l s.preds hs (fun p hp h => subst_ok hL h44 h15 l hl hok p.type (hps p hp) h)
  unfold mapped_C at hloop
  simp only [Int.natCast_zero, ownAt_zero, tailAt_zero, List.map_nil] at hloop
  refine pcall_fn hL hf (data_Scheme _) ?_ h
  unfold fn36 mapped
  rcases own_cases 3 5 s.preds.length with ⟨h1, h2⟩ | ⟨h1, h2⟩ <;> simp -implicitDefEqProofs only [code_ops, code_draw, code_seq, code_ret, ops_cons, ops_nil, aOp, opd, upd_at, upd_none, initTm_at, kt_cons, stepVal, stepHeap, aLen, aWanted, aLoad1, aStore, readAt, aField, fillA, known, leaf, acells_agg, acells_int, cellsSet, endFn, aResults, aResult, tupled, code_loopF, gc_mk, gcIds_mk, newIds_nil, newIds_cons, gcMap_at, posOf, ren, renC, renO_box, idsV, idsC, idsO_box, draw_eq, opsH_nil, opsH_cons, isLoud, wipe_agg, wipe_list, wipeR_agg, wipeC_list, wipeC_int, wipeC_str, isData_list_none, isData_list_full, isData_int, isData_str, isData_agg, isData_ptr, isDataL_nil, isDataL_cons, Option.map_some, Option.getD_some, List.map_cons, List.map_nil, List.flatMap_cons, List.flatMap_nil, List.length_cons, List.length_nil, List.length_map, List.cons_append, List.nil_append, List.append_nil, List.getElem?_cons_zero, List.getElem?_cons_succ, List.set_cons_zero, List.set_cons_succ, List.take_succ_cons, List.take_zero, List.drop_succ_cons, List.drop_zero, List.take_nil, List.drop_nil, List.all_cons, List.all_nil, List.mem_cons, List.not_mem_nil, ↓reduceIte, Bool.and_true, Bool.false_eq_true, and_true, or_false, not_false_eq_true, and_self, Nat.le_refl, Nat.add_zero, Nat.zero_add, Nat.reduceEqDiff, Nat.reduceAdd, Nat.reduceSub, Nat.reduceLT, Nat.reduceLeDiff, checksP_cons, checksP_nil, checkP_eq, drawTo_if, forall_const, forall_eq_or_imp, forall_eq, onlyVal, encTy_eq, encScheme_eq, data_Tys, data_Preds, data_Maps, outOf_val, hsub, hloop, h1, h2, doCall_p L hp, hp]

def variables (n : Int) : List Ty := (List.range n.toNat).map fun i => .mk 0 ⟨#[]⟩ (i : Nat) []

end Go.Abs
