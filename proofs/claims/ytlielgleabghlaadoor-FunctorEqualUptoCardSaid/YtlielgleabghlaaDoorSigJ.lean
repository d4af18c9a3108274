/-
  What the checks of kinds, data types and schemes answer. Conditions: none.
-/
import Derived.Test.YtlielgleabghlaaDoorSigI
import Derived.Test.YtlielgleabghlaaDoorC

set_option linter.unusedVariables false
set_option linter.unusedSimpArgs false
set_option maxRecDepth 100000
set_option maxHeartbeats 4000000
namespace Go.Abs

/-- The three facts of a round over a list. -/
theorem round_facts {α : Type} (f : α → AVal) (xs : List α) (hl : xs.length < 2 ^ 30) (i : Nat) (hi : i < xs.length) :
    ((i : Int) < xs.length) ∧ IntKind.i64.wrap ((i : Int) + 1) = ((i + 1 : Nat) : Int) ∧ (xs.map f)[i]? = some (f xs[i]) :=
  ⟨by omega, by rw [wrap64 (by omega) (by omega)]; rfl, by simp [hi]⟩

def kindError (l : List DataSig) : Ty → Int
  | .mk k n v as => if k = 1 ∧ (find l n).2 = true ∧ (find l n).1.params ≠ as.length then 9 else firstErr (as.attach.map fun a => kindError l a.1)
  termination_by t => SizeOf.sizeOf t
  decreasing_by
    have := Ty.mem_size a.2
    simp only [Ty.mk.sizeOf_spec]
    omega
theorem kindError_eq (l : List DataSig) (k : Int) (n : ByteArray) (v : Int) (as : List Ty) : kindError l (.mk k n v as) = if k = 1 ∧ (find l n).2 = true ∧ (find l n).1.params ≠ as.length then 9 else firstErr (as.map (kindError l)) := by
  rw [kindError]
  simp

theorem kindError_l0 {L : Lib} (hL : Plain L) (l : List DataSig) (t : Ty) (d : DataSig) (as : List Ty) (hl : as.length < 2 ^ 30) (H : Heap)
    (hH : H = [.box [.int .i64 t.kind, .str t.name, .int .i64 t.var, .list (t.args.map encTy) none]] ∨ H = [.box [.int .i64 t.kind, .str t.name, .int .i64 t.var, .list (t.args.map encTy) none], .box [.str d.name, .int .i64 d.params, .list (d.cons.map encCon) none]])
    (ih : ∀ a ∈ as, ∀ h : Heap, pcall L 61 [.list (l.map encData) none, .agg [.int .i64 a.kind, .str a.name, .int .i64 a.var, .list (a.args.map encTy) none]] h = some (.val (.int .i64 (kindError l a)), h)) :
    loopF L.pure (call L) H.length [0, 30, 31, 32] [4] 0 fn61_l0 ⟨kt [0, 30, 31, 32] [.list (l.map encData) none, .list (as.map encTy) none, .int .i64 as.length, .int .i64 ((0 : Nat) : Int)], H⟩ =
    some (if firstErr (as.map (kindError l)) = 0 then (.normal, ⟨kt [4] [.junk], H⟩) else (.ret, ⟨kt [4] [.int .i64 (firstErr (as.map (kindError l)))], H⟩)) := by
  have hp := hL.pure
  refine loopF_err as (kindError l) (fun i => ⟨kt [0, 30, 31, 32] [.list (l.map encData) none, .list (as.map encTy) none, .int .i64 as.length, .int .i64 i], H⟩) ⟨kt [4] [.junk], H⟩ (fun e => ⟨kt [4] [.int .i64 e], H⟩) ?_ ?_ ?_
  · intro i hi he
    obtain ⟨h1, h2, h3⟩ := round_facts encTy as hl i hi
    have ih1 := ih as[i] (List.getElem_mem hi)
    generalize as[i] = a at *
    unfold fn61_l0
    rcases hH with rfl | rfl <;> simp -implicitDefEqProofs only [code_skip, code_ops, code_seq, code_cond, code_block, ops_cons, ops_nil, aOp, opd, upd_at, upd_none, kt_cons, stepVal, stepHeap, aBin, aInt, aIndexList, isShift, aStore, readAt, leaf, acells_agg, cellsSet, gc_mk, gcIds_mk, newIds_nil, gcMap_at, posOf, ren, renC, renO_box, idsV, idsC, idsO_box, wipe_agg, wipe_list, wipeC_list, wipeC_int, wipeC_str, isData_list_none, isData_int, isData_str, isData_agg, isDataL_nil, isDataL_cons, beq_self_eq_true, Option.map_some, List.map_cons, List.map_nil, List.flatMap_cons, List.flatMap_nil, List.length_cons, List.length_nil, List.cons_append, List.nil_append, List.append_nil, List.getElem?_cons_zero, List.getElem?_cons_succ, List.set_cons_zero, List.set_cons_succ, List.take_succ_cons, List.take_zero, List.drop_succ_cons, List.drop_zero, List.take_nil, List.drop_nil, List.all_cons, List.all_nil, ↓reduceIte, Bool.and_true, Bool.not_true, Bool.false_eq_true, decide_true, and_self, Nat.le_refl, reduceCtorEq, Nat.zero_add, Nat.reduceEqDiff, Nat.reduceAdd, Nat.reduceLeDiff, Int.toNat_natCast, Int.natCast_nonneg, roundF_eq, kt_nil, onlyVal, encTy_eq, data_Tys, data_Cons, data_Datas, h1, h2, h3, ih1, he, doCall_p L hp, hp, bne]
  · intro i hi he
    obtain ⟨h1, h2, h3⟩ := round_facts encTy as hl i hi
    have ih1 := ih as[i] (List.getElem_mem hi)
    generalize as[i] = a at *
    have he : (kindError l a == 0) = false := by simpa using he
    unfold fn61_l0
    rcases hH with rfl | rfl <;> simp -implicitDefEqProofs only [code_skip, code_ops, code_seq, code_cond, code_block, code_ret, ops_cons, ops_nil, aOp, opd, upd_at, upd_none, kt_cons, stepVal, stepHeap, aBin, aInt, aIndexList, isShift, aStore, readAt, leaf, acells_agg, cellsSet, gcE, gc_mk, gcIds_mk, newIds_nil, gcMap_at, posOf, ren, renC, renO_box, idsV, idsC, idsO_box, wipe_agg, wipe_list, wipeC_list, wipeC_int, wipeC_str, isData_list_none, isData_int, isData_str, isData_agg, isDataL_nil, isDataL_cons, Option.map_some, List.map_cons, List.map_nil, List.flatMap_cons, List.flatMap_nil, List.length_cons, List.length_nil, List.cons_append, List.nil_append, List.append_nil, List.getElem?_cons_zero, List.getElem?_cons_succ, List.set_cons_zero, List.set_cons_succ, List.take_succ_cons, List.take_zero, List.drop_succ_cons, List.drop_zero, List.take_nil, List.drop_nil, List.all_cons, List.all_nil, ↓reduceIte, Bool.and_true, Bool.not_false, Bool.false_eq_true, decide_true, and_self, Nat.le_refl, reduceCtorEq, Nat.zero_add, Nat.reduceEqDiff, Nat.reduceAdd, Nat.reduceLeDiff, Int.toNat_natCast, Int.natCast_nonneg, roundF_eq, kt_nil, onlyVal, encTy_eq, data_Tys, data_Cons, data_Datas, h1, h2, h3, ih1, he, doCall_p L hp, hp, bne]
  · have h0 : ¬ ((as.length : Int) < as.length) := by omega
    unfold fn61_l0
    rcases hH with rfl | rfl <;> simp -implicitDefEqProofs only [code_ops, code_seq, code_cond, code_exit, ops_cons, ops_nil, aOp, opd, upd_at, kt_cons, stepVal, aBin, aInt, isShift, gcE, gc_mk, gcIds_mk, newIds_nil, gcMap_at, posOf, ren, renC, renO_box, idsV, idsC, idsO_box, isData_list_none, isData_int, isData_str, isData_junk, List.map_cons, List.map_nil, List.flatMap_cons, List.flatMap_nil, List.length_cons, List.length_nil, List.append_nil, List.take_succ_cons, List.take_nil, ↓reduceIte, Bool.false_eq_true, decide_false, Nat.le_refl, reduceCtorEq, Nat.zero_add, Nat.reduceEqDiff, Nat.reduceAdd, roundF_eq, kt_nil, data_Tys, data_Cons, h0]

theorem kindError_ok {L : Lib} {ca : ByteArray → ByteArray → Bool} (hL : Plain L) (hP : Prims L ca) (h68 : L.fns 68 = some fn68) (h67 : L.fns 67 = some fn67) (h49 : L.fns 49 = some fn49) (hf : L.fns 61 = some fn61)
    (l : List DataSig) (hl : l.length < 2 ^ 30) (t : Ty) (ht : TyFit t) : ∀ (h : Heap),
    pcall L 61 [.list (l.map encData) none, .agg [.int .i64 t.kind, .str t.name, .int .i64 t.var, .list (t.args.map encTy) none]] h = some (.val (.int .i64 (kindError l t)), h) := by
  have hp := hL.pure
  have hfind := find_ok hL hP h68 h67 h49 l hl
  induction t using Ty.ind with
  | h k n v as ih =>
    cases ht with
    | mk hl ha =>
    intro h
    have hloop := kindError_l0 hL l (.mk k n v as) (find l n).1 as hl
    simp only [Ty.kind_mk, Ty.name_mk, Ty.var_mk, Ty.args_mk, Int.natCast_zero] at hloop
    have hA := hloop _ (.inl rfl) (fun a ha' h => ih a ha' (ha a ha') h)
    have hB := hloop _ (.inr rfl) (fun a ha' h => ih a ha' (ha a ha') h)
    simp only [List.length_cons, List.length_nil, Nat.zero_add, Nat.reduceAdd] at hA hB
    simp only [Ty.kind_mk, Ty.name_mk, Ty.var_mk, Ty.args_mk, kindError_eq]
    refine pcall_fn hL hf rfl ?_ h
    unfold fn61
    by_cases hk : k = 1
    · subst hk
      have hfi := hfind n
      generalize find l n = fd at *
      obtain ⟨d, is⟩ := fd
      dsimp only at *
      cases is with
      | false => by_cases he : firstErr (as.map (kindError l)) = 0 <;> simp -implicitDefEqProofs only [code_skip, code_ops, code_seq, code_cond, code_ret, ops_cons, ops_cons_g, ops_nil, aOp, opd, upd_at, upd_none, initTm_at, kt_cons, stepVal, stepHeap, aBin, aLen, aInt, isShift, aWanted, aLoad1, aStore, aField, leaf, acells_agg, cellsSet, endFn, aResults, aResult, tupled, code_loopF, gc_mk, gcIds_mk, newIds_nil, gcMap_at, posOf, ren, renC, renO_box, idsV, idsC, idsO_box, wipe_list, wipe_str, wipeR_int, isData_list_none, isData_int, isData_str, isDataL_nil, isDataL_cons, beqFT, beq_self_eq_true, Option.getD_some, List.map_cons, List.map_nil, List.flatMap_cons, List.flatMap_nil, List.length_cons, List.length_nil, List.length_map, List.cons_append, List.nil_append, List.append_nil, List.getElem?_cons_zero, List.getElem?_cons_succ, List.set_cons_zero, List.set_cons_succ, List.take_succ_cons, List.take_zero, List.drop_succ_cons, List.take_nil, List.drop_nil, List.all_cons, List.all_nil, ↓reduceIte, Bool.and_true, Bool.false_eq_true, and_false, false_and, and_self, Nat.le_refl, reduceCtorEq, Nat.add_zero, Nat.zero_add, Nat.reduceEqDiff, Nat.reduceAdd, ne_eq, onlyVal, data_Tys, data_Cons, data_Datas, outOf_val, hfi, hB, he, doCall_p L hp, hp]
      | true =>
        by_cases hn : d.params = as.length
        · have hn' : (d.params != (as.length : Int)) = false := by simpa using hn
          have hn2 := eq_true hn
          by_cases he : firstErr (as.map (kindError l)) = 0 <;> simp -implicitDefEqProofs only [code_skip, code_ops, code_seq, code_cond, code_ret, ops_cons, ops_cons_g, ops_nil, aOp, opd, upd_at, upd_none, initTm_at, kt_cons, stepVal, stepHeap, aBin, aLen, aInt, isShift, aWanted, aLoad1, aStore, aField, leaf, acells_agg, cellsSet, endFn, aResults, aResult, tupled, code_loopF, gc_mk, gcIds_mk, newIds_nil, gcMap_at, posOf, ren, renC, renO_box, idsV, idsC, idsO_box, wipe_list, wipe_str, wipeR_int, isData_list_none, isData_int, isData_str, isDataL_nil, isDataL_cons, beq_self_eq_true, Option.getD_some, List.map_cons, List.map_nil, List.flatMap_cons, List.flatMap_nil, List.length_cons, List.length_nil, List.length_map, List.cons_append, List.nil_append, List.append_nil, List.getElem?_cons_zero, List.getElem?_cons_succ, List.set_cons_zero, List.set_cons_succ, List.take_succ_cons, List.take_zero, List.drop_succ_cons, List.take_nil, List.drop_nil, List.all_cons, List.all_nil, ↓reduceIte, Bool.and_true, Bool.false_eq_true, and_false, not_true_eq_false, and_self, Nat.le_refl, reduceCtorEq, Nat.add_zero, Nat.zero_add, Nat.reduceEqDiff, Nat.reduceAdd, ne_eq, onlyVal, data_Tys, data_Cons, data_Datas, outOf_val, hfi, hB, he, hn2, hn', doCall_p L hp, hp, ne_eq, not_true_eq_false]
        · have hn' : (d.params != (as.length : Int)) = true := by simpa using hn
          simp -implicitDefEqProofs only [code_ops, code_seq, code_cond, code_ret, ops_cons, ops_cons_g, ops_nil, aOp, opd, upd_at, upd_none, initTm_at, stepVal, stepHeap, aBin, aLen, aInt, isShift, aWanted, aLoad1, aStore, aField, leaf, acells_agg, cellsSet, endFn, aResults, aResult, tupled, wipe_list, wipe_str, wipeR_int, isData_list_none, isData_str, isDataL_nil, isDataL_cons, beq_self_eq_true, Option.getD_some, List.map_cons, List.map_nil, List.length_cons, List.length_nil, List.length_map, List.cons_append, List.nil_append, List.append_nil, List.getElem?_cons_zero, List.getElem?_cons_succ, List.set_cons_zero, List.set_cons_succ, List.take_zero, List.drop_succ_cons, List.drop_nil, List.all_cons, List.all_nil, ↓reduceIte, Bool.and_true, Bool.false_eq_true, not_false_eq_true, and_self, Nat.le_refl, reduceCtorEq, Nat.add_zero, Nat.zero_add, Nat.reduceEqDiff, Nat.reduceAdd, ne_eq, onlyVal, data_Datas, outOf_val, hfi, hn, hn', doCall_p L hp, hp, ne_eq, not_false_eq_true]
    · have hk' : (k == 1) = false := by simpa using hk
      by_cases he : firstErr (as.map (kindError l)) = 0 <;> simp -implicitDefEqProofs only [code_skip, code_ops, code_seq, code_cond, code_ret, ops_cons, ops_nil, aOp, opd, upd_at, initTm_at, kt_cons, stepVal, aBin, aLen, aInt, isShift, aLoad1, aField, acells_agg, endFn, aResults, aResult, tupled, code_loopF, gc_mk, gcIds_mk, newIds_nil, gcMap_at, posOf, ren, renC, renO_box, idsV, idsC, idsO_box, wipeR_int, isData_list_none, isData_int, isData_str, Option.getD_some, List.map_cons, List.map_nil, List.flatMap_cons, List.flatMap_nil, List.length_cons, List.length_nil, List.length_map, List.nil_append, List.append_nil, List.getElem?_cons_zero, List.getElem?_cons_succ, List.take_succ_cons, List.take_nil, ↓reduceIte, Bool.false_eq_true, false_and, Nat.le_refl, reduceCtorEq, Nat.add_zero, Nat.zero_add, Nat.reduceEqDiff, ne_eq, data_Tys, data_Datas, outOf_val, hk, hk', hA, he, doCall_p L hp, hp]

/-! ### Schemes -/
def predError (ca : ByteArray → ByteArray → Bool) (vars : Int) (p : Pred) : Int := if cutB ca p.cls = true then 3 else typeError p.type vars 1
def schemeError (ca : ByteArray → ByteArray → Bool) (s : Scheme) : Int :=
  if s.vars < 0 ∨ s.vars > 40 then 4 else if firstErr (s.preds.map (predError ca s.vars)) = 0 then typeError s.type s.vars 1 else firstErr (s.preds.map (predError ca s.vars))

theorem schemeError_ok {L : Lib} {ca : ByteArray → ByteArray → Bool} (hL : Plain L) (hP : Prims L ca) (h29 : L.fns 29 = some fn29) (h60 : L.fns 60 = some fn60) (h75 : L.fns 75 = some fn75) (hf : L.fns 38 = some fn38)
    (s : Scheme) (hl : s.preds.length < 2 ^ 30) (h : Heap) :
    pcall L 38 [.agg [.int .i64 s.vars, .list (s.preds.map encPred) none, .int .i64 s.type.kind, .str s.type.name, .int .i64 s.type.var, .list (s.type.args.map encTy) none]] h = some (.val (.int .i64 (schemeError ca s)), h) := by
  have hp := hL.pure
  have hcut := cut_ok hL h29 hP.any
  have hty := fun vars t h => typeError_ok hL h60 h75 vars t 1 (by omega) (by omega) h
  have hloop := loopF_err (pure := L.pure) (call := call L) (b := 1) (keep := [1, 15, 16, 17]) (fk := [1, 2]) (id := 0) (body := fn38_l0) s.preds (predError ca s.vars)
    (fun i => ⟨kt [1, 15, 16, 17] [.ptr (some (0, 0)), .list (s.preds.map encPred) none, .int .i64 s.preds.length, .int .i64 i], [.box [.int .i64 s.vars, .list (s.preds.map encPred) none, .int .i64 s.type.kind, .str s.type.name, .int .i64 s.type.var, .list (s.type.args.map encTy) none]]⟩)
    ⟨kt [1, 2] [.ptr (some (0, 0)), .junk], [.box [.int .i64 s.vars, .list (s.preds.map encPred) none, .int .i64 s.type.kind, .str s.type.name, .int .i64 s.type.var, .list (s.type.args.map encTy) none]]⟩
    (fun e => ⟨kt [1, 2] [.ptr (some (0, 0)), .int .i64 e], [.box [.int .i64 s.vars, .list (s.preds.map encPred) none, .int .i64 s.type.kind, .str s.type.name, .int .i64 s.type.var, .list (s.type.args.map encTy) none]]⟩)
    (by
      intro i hi he
      obtain ⟨h1, h2, h3⟩ := round_facts encPred s.preds hl i hi
      generalize s.preds[i] = a at *
      unfold predError at he
      unfold fn38_l0
      cases hc : cutB ca a.cls
      · simp only [hc, Bool.false_eq_true, if_false] at he
        simp -implicitDefEqProofs only [code_skip, code_ops, code_seq, code_cond, code_block, ops_cons, ops_nil, aOp, opd, upd_at, upd_none, kt_cons, stepVal, stepHeap, aBin, aInt, aIndexList, isShift, aLoad1, aStore, readAt, aField, leaf, acells_agg, cellsSet, gc_mk, gcIds_mk, newIds_nil, newIds_cons, gcMap_at, posOf, ren, renC, renO_box, idsV, idsC, idsO_box, wipe_agg, wipe_int, wipe_str, wipeC_list, wipeC_int, wipeC_str, isData_list_none, isData_int, isData_str, isData_agg, isData_ptr, isDataL_nil, isDataL_cons, beq_self_eq_true, Option.map_some, List.map_cons, List.map_nil, List.flatMap_cons, List.flatMap_nil, List.length_cons, List.length_nil, List.cons_append, List.nil_append, List.append_nil, List.getElem?_cons_zero, List.getElem?_cons_succ, List.set_cons_zero, List.set_cons_succ, List.take_succ_cons, List.take_zero, List.drop_succ_cons, List.drop_zero, List.take_nil, List.drop_nil, List.all_cons, List.all_nil, List.not_mem_nil, ↓reduceIte, Bool.and_true, Bool.not_true, Bool.false_eq_true, and_true, not_false_eq_true, decide_true, and_self, Nat.le_refl, Nat.add_zero, Nat.zero_add, Nat.reduceEqDiff, Nat.reduceAdd, Nat.reduceLT, Nat.reduceLeDiff, Int.toNat_natCast, Int.natCast_nonneg, roundF_eq, kt_nil, onlyVal, encPred_eq, data_Tys, data_Preds, h1, h2, h3, hcut, hty, hc, he, doCall_p L hp, hp, bne]
      · simp [hc] at he)
    (by
      intro i hi he
      obtain ⟨h1, h2, h3⟩ := round_facts encPred s.preds hl i hi
      generalize s.preds[i] = a at *
      unfold predError at he ⊢
      unfold fn38_l0
      cases hc : cutB ca a.cls
      · simp only [hc, Bool.false_eq_true, if_false] at he
        have he : (typeError a.type s.vars 1 == 0) = false := by simpa using he
        simp -implicitDefEqProofs only [code_skip, code_ops, code_seq, code_cond, code_block, code_ret, ops_cons, ops_nil, aOp, opd, upd_at, upd_none, kt_cons, stepVal, stepHeap, aBin, aInt, aIndexList, isShift, aLoad1, aStore, readAt, aField, leaf, acells_agg, cellsSet, gcE, gc_mk, gcIds_mk, newIds_nil, newIds_cons, gcMap_at, posOf, ren, renC, renO_box, idsV, idsC, idsO_box, wipe_agg, wipe_int, wipe_str, wipeC_list, wipeC_int, wipeC_str, isData_list_none, isData_int, isData_str, isData_agg, isData_ptr, isDataL_nil, isDataL_cons, Option.map_some, List.map_cons, List.map_nil, List.flatMap_cons, List.flatMap_nil, List.length_cons, List.length_nil, List.cons_append, List.nil_append, List.append_nil, List.getElem?_cons_zero, List.getElem?_cons_succ, List.set_cons_zero, List.set_cons_succ, List.take_succ_cons, List.take_zero, List.drop_succ_cons, List.drop_zero, List.take_nil, List.drop_nil, List.all_cons, List.all_nil, List.not_mem_nil, ↓reduceIte, Bool.and_true, Bool.not_false, Bool.false_eq_true, and_true, not_false_eq_true, decide_true, and_self, Nat.le_refl, Nat.add_zero, Nat.zero_add, Nat.reduceEqDiff, Nat.reduceAdd, Nat.reduceLT, Nat.reduceLeDiff, Int.toNat_natCast, Int.natCast_nonneg, roundF_eq, kt_nil, onlyVal, encPred_eq, data_Tys, data_Preds, h1, h2, h3, hcut, hty, hc, he, doCall_p L hp, hp, bne]
      · simp -implicitDefEqProofs only [code_skip, code_ops, code_seq, code_cond, code_block, code_ret, ops_cons, ops_nil, aOp, opd, upd_at, upd_none, kt_cons, stepVal, stepHeap, aBin, aInt, aIndexList, isShift, aLoad1, aStore, readAt, aField, leaf, acells_agg, cellsSet, gcE, gc_mk, gcIds_mk, newIds_nil, newIds_cons, gcMap_at, posOf, ren, renC, renO_box, idsV, idsC, idsO_box, wipe_str, isData_list_none, isData_int, isData_str, isData_ptr, isDataL_nil, isDataL_cons, Option.map_some, List.map_cons, List.map_nil, List.flatMap_cons, List.flatMap_nil, List.length_cons, List.length_nil, List.cons_append, List.nil_append, List.append_nil, List.getElem?_cons_zero, List.getElem?_cons_succ, List.set_cons_zero, List.set_cons_succ, List.take_succ_cons, List.take_zero, List.drop_succ_cons, List.drop_zero, List.take_nil, List.drop_nil, List.all_cons, List.all_nil, List.not_mem_nil, ↓reduceIte, Bool.and_true, Bool.false_eq_true, and_true, not_false_eq_true, decide_true, and_self, Nat.le_refl, Nat.add_zero, Nat.zero_add, Nat.reduceEqDiff, Nat.reduceAdd, Nat.reduceLT, Nat.reduceLeDiff, Int.toNat_natCast, Int.natCast_nonneg, roundF_eq, kt_nil, onlyVal, encPred_eq, data_Tys, data_Preds, h1, h2, h3, hcut, hty, hc, doCall_p L hp, hp, bne])
    (by
      have h0 : ¬ ((s.preds.length : Int) < s.preds.length) := by omega
      unfold fn38_l0
      simp -implicitDefEqProofs only [code_ops, code_seq, code_cond, code_exit, ops_cons, ops_nil, aOp, opd, upd_at, kt_cons, stepVal, aBin, aInt, isShift, gcE, gc_mk, gcIds_mk, newIds_nil, newIds_cons, gcMap_at, posOf, ren, renC, renO_box, idsV, idsC, idsO_box, isData_list_none, isData_int, isData_str, isData_ptr, isData_junk, List.map_cons, List.map_nil, List.flatMap_cons, List.flatMap_nil, List.length_cons, List.length_nil, List.append_nil, List.take_succ_cons, List.take_nil, List.not_mem_nil, ↓reduceIte, Bool.false_eq_true, and_true, not_false_eq_true, decide_false, Nat.le_refl, Nat.zero_add, Nat.reduceEqDiff, Nat.reduceLT, Nat.reduceLeDiff, roundF_eq, kt_nil, data_Tys, data_Preds, h0])
  simp only [Int.natCast_zero] at hloop
  refine pcall_fn hL hf rfl ?_ h
  unfold fn38 schemeError
  by_cases hv1 : s.vars < 0
  · simp -implicitDefEqProofs only [code_ops, code_seq, code_cond, code_ret, ops_cons, ops_cons_g, ops_nil, aOp, opd, upd_at, initTm_at, stepVal, aBin, aInt, isShift, aWanted, aLoad1, aField, acells_agg, endFn, aResults, aResult, tupled, wipeR_int, beqTF, Option.getD_some, List.length_nil, List.nil_append, List.getElem?_cons_zero, ↓reduceIte, Bool.false_eq_true, true_or, decide_true, Nat.add_zero, Nat.reduceEqDiff, gt_iff_lt, outOf_val, hv1]
  · by_cases hv2 : s.vars > 40
    · simp -implicitDefEqProofs only [code_ops, code_seq, code_cond, code_ret, ops_cons, ops_cons_g, ops_nil, aOp, opd, upd_at, initTm_at, stepVal, aBin, aInt, isShift, aWanted, aLoad1, aField, acells_agg, endFn, aResults, aResult, tupled, wipeR_int, beq_self_eq_true, Option.getD_some, List.length_nil, List.nil_append, List.getElem?_cons_zero, ↓reduceIte, Bool.false_eq_true, or_true, decide_true, decide_false, Nat.add_zero, Nat.reduceEqDiff, gt_iff_lt, outOf_val, hv1, hv2]
    · by_cases he : firstErr (s.preds.map (predError ca s.vars)) = 0 <;> simp -implicitDefEqProofs only [code_skip, code_ops, code_seq, code_cond, code_ret, ops_cons, ops_cons_g, ops_nil, aOp, opd, upd_at, initTm_at, kt_cons, stepVal, aBin, aLen, aInt, isShift, aWanted, aLoad1, readAt, aField, acells_agg, endFn, aResults, aResult, tupled, code_loopF, gc_mk, gcIds_mk, newIds_nil, newIds_cons, gcMap_at, posOf, ren, renC, renO_box, idsV, idsC, idsO_box, wipe_agg, wipe_int, wipeR_int, wipeC_list, wipeC_int, wipeC_str, isData_list_none, isData_int, isData_str, isData_agg, isData_ptr, isDataL_nil, isDataL_cons, beq_self_eq_true, Option.map_some, Option.getD_some, List.map_cons, List.map_nil, List.flatMap_cons, List.flatMap_nil, List.length_cons, List.length_nil, List.length_map, List.nil_append, List.append_nil, List.getElem?_cons_zero, List.getElem?_cons_succ, List.take_succ_cons, List.drop_succ_cons, List.drop_zero, List.take_nil, List.not_mem_nil, ↓reduceIte, Bool.and_true, Bool.false_eq_true, and_true, or_false, not_false_eq_true, decide_false, and_self, Nat.le_refl, Nat.add_zero, Nat.zero_add, Nat.reduceEqDiff, Nat.reduceAdd, Nat.reduceLT, Nat.reduceLeDiff, gt_iff_lt, onlyVal, data_Tys, data_Preds, outOf_val, hv1, hv2, hloop, he, hty, doCall_p L hp, hp]

end Go.Abs
