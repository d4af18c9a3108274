/-
  The law Instance on the abstract machine: what makes every variable one type is an instance. Conditions: none.
-/
import Derived.Test.YtlielgleabghlaaDoorLawC

set_option linter.unusedVariables false
set_option linter.unusedSimpArgs false
set_option maxRecDepth 100000
set_option maxHeartbeats 4000000
namespace Go.Abs

/-! ### Every variable becomes one type -/
def repl (t : Ty) : Ty → Ty
  | .mk k n v as => if k = 0 then t else .mk k n 0 (as.attach.map fun a => repl t a.1)
  termination_by t => SizeOf.sizeOf t
  decreasing_by
    have := Ty.mem_size a.2
    simp only [Ty.mk.sizeOf_spec]
    omega
theorem repl_eq (t : Ty) (k : Int) (n : ByteArray) (v : Int) (as : List Ty) : repl t (.mk k n v as) = if k = 0 then t else .mk k n 0 (as.map (repl t)) := by
  rw [repl]
  simp

def tcl (t : Ty) : List AVal := [.int .i64 t.kind, .str t.name, .int .i64 t.var, .list (t.args.map encTy) none]
def repl_C (k v : Int) (n : ByteArray) (t : Ty) (as outs : List Ty) (i : Nat) : St :=
  ⟨kt [3, 4, 5, 18, 19, 20] [.ptr (some (1, 0)), .ptr (some (2, 0)), .ptr (some (3, 0)), .list (as.map encTy) none, .int .i64 as.length, .int .i64 i],
   .box [.int .i64 k, .str n, .int .i64 v, .list (as.map encTy) none] :: .box [.int .i64 t.kind, .str t.name, .int .i64 t.var, .list (t.args.map encTy) none] :: .box [.int .i64 0, .str ⟨#[]⟩, .int .i64 0, .list [] (some none)] :: .box [.int .i64 k, .str n, .int .i64 0, .list (outs.map encTy) (ownAt 4 i)] :: tailAt 4 i⟩

theorem repl_l0 {L : Lib} (hL : Plain L) (k v : Int) (n : ByteArray) (t : Ty) (as : List Ty) (hl : as.length < 2 ^ 30)
    (ih : ∀ a ∈ as, ∀ h : Heap, pcall L 19 [.agg [.int .i64 a.kind, .str a.name, .int .i64 a.var, .list (a.args.map encTy) none], .agg [.int .i64 t.kind, .str t.name, .int .i64 t.var, .list (t.args.map encTy) none]] h = some (.val (encTy (repl t a)), h)) :
    loopF L.pure (call L) 4 [3, 4, 5, 18, 19, 20] [4, 5] 0 fn19_l0 (repl_C k v n t as [] 0) =
    some (.normal, ⟨kt [4, 5] [.ptr (some (2, 0)), .ptr (some (3, 0))], (repl_C k v n t as (as.map (repl t)) as.length).h⟩) := by
  have hp := hL.pure
  refine loopF_append as (repl t) (repl_C k v n t as) _ (by
      intro i hi outs hlen
      obtain ⟨h1, h2, h3⟩ := round_facts encTy (as) hl i hi
      have hm : i + 1 ≤ 1073741824 := by omega
      have ih1 := ih as[i] (List.getElem_mem hi)
      cases i with
      | zero =>
        obtain rfl := List.eq_nil_of_length_eq_zero hlen
        have h1 : (0 : Int) < (as).length := by omega
        have h2 : IntKind.i64.wrap 1 = 1 := by decide
        generalize (as)[0] = a at *
        unfold fn19_l0 repl_C
        simp -implicitDefEqProofs only [code_skip, code_ops, code_draw, code_seq, code_cond, code_block, ops_cons, ops_nil, aOp, opd, upd_at, upd_none, kt_cons, stepVal, stepHeap, aBin, aInt, aIndexList, isShift, aWanted, aLoad1, aStore, readAt, aField, leaf, acells_agg, acells_list, cellsSet, gc_mk, gcIds_mk, newIds_nil, newIds_cons, gcMap_at, posOf, ren, renC, renO_box, renO_tail, idsV, idsC, idsO_box, draw_eq, opsH_nil, opsH_cons, isLoud, aAppend, wipe_agg, wipeC_list, wipeC_int, wipeC_str, isData_list_none, isData_list_full, isData_list_tail, isData_int, isData_str, isData_agg, isData_ptr, isDataL_nil, isDataL_cons, Option.map_some, Option.getD_some, List.map_cons, List.map_nil, List.flatMap_cons, List.flatMap_nil, List.length_cons, List.length_nil, List.cons_append, List.nil_append, List.append_nil, List.getElem?_cons_zero, List.getElem?_cons_succ, List.set_cons_zero, List.set_cons_succ, List.take_succ_cons, List.take_zero, List.drop_succ_cons, List.drop_zero, List.take_nil, List.drop_nil, List.all_cons, List.all_nil, List.not_mem_nil, ↓reduceIte, Bool.and_true, Bool.false_eq_true, and_true, not_false_eq_true, decide_true, and_self, Nat.le_refl, Nat.zero_add, Nat.reduceEqDiff, Nat.reduceAdd, Nat.reduceLT, Nat.reduceLeDiff, Int.reduceToNat, Int.reduceLE, List.cons_ne_nil, roundF_eq, maxLen_eq, checksP_nil, drawTo_if, Int.reduceAdd, kt_nil, Int.cast_ofNat_Int, onlyVal, encTy_eq, data_Tys, ownAt_zero, ownAt_succ, tailAt_zero, tailAt_succ, h1, h2, h3, ih1, doCall_p L hp, hp]
      | succ j =>
        generalize (as)[j + 1] = a at *
        unfold fn19_l0 repl_C
        simp -implicitDefEqProofs only [code_skip, code_ops, code_draw, code_seq, code_cond, code_block, ops_cons, ops_nil, aOp, opd, upd_at, upd_none, kt_cons, stepVal, stepHeap, aBin, aInt, aIndexList, isShift, aWanted, aLoad1, aStore, readAt, aField, leaf, acells_agg, acells_list, cellsSet, gc_mk, gcIds_mk, newIds_nil, newIds_cons, gcMap_at, posOf, ren, renC, renO_box, renO_tail, idsV, idsC, idsO_box, draw_eq, opsH_nil, opsH_cons, isLoud, aAppend, wipe_agg, wipeC_list, wipeC_int, wipeC_str, isData_list_none, isData_list_full, isData_list_tail, isData_int, isData_str, isData_agg, isData_ptr, isDataL_nil, isDataL_cons, isDataL_append, Option.map_some, Option.getD_some, List.map_cons, List.map_nil, List.flatMap_cons, List.flatMap_nil, List.length_cons, List.length_nil, List.length_map, List.cons_append, List.nil_append, List.append_nil, List.getElem?_cons_zero, List.getElem?_cons_succ, List.set_cons_zero, List.set_cons_succ, List.take_succ_cons, List.take_zero, List.drop_succ_cons, List.drop_zero, List.take_nil, List.drop_nil, List.all_cons, List.all_nil, List.not_mem_nil, ↓reduceIte, Bool.and_true, Bool.false_eq_true, and_true, not_false_eq_true, decide_true, and_self, Nat.le_refl, Nat.zero_add, Nat.reduceEqDiff, Nat.reduceAdd, Nat.reduceLT, Nat.reduceLeDiff, Int.toNat_natCast, Int.natCast_nonneg, List.cons_ne_nil, roundF_eq, maxLen_eq, checksP_nil, drawTo_if, List.map_append, kt_nil, onlyVal, encTy_eq, data_Tys, all_Tys, ownAt_succ, tailAt_succ, h1, h2, h3, hlen, hm, ih1, doCall_p L hp, hp]) (by
      have h0 : ¬ (((as).length : Int) < (as).length) := by omega
      unfold fn19_l0 repl_C
      rcases own_cases 4 4 (as).length with ⟨h1, h2⟩ | ⟨h1, h2⟩ <;>
        simp -implicitDefEqProofs only [code_ops, code_seq, code_cond, code_exit, ops_cons, ops_nil, aOp, opd, upd_at, kt_cons, stepVal, aBin, aInt, isShift, gcE, gc_mk, gcIds_mk, newIds_nil, newIds_cons, gcMap_at, posOf, ren, renC, renO_box, renO_tail, idsV, idsC, idsO_box, isData_list_none, isData_list_full, isData_list_tail, isData_int, isData_str, isData_ptr, isDataL_nil, Option.getD_some, List.map_cons, List.map_nil, List.flatMap_cons, List.flatMap_nil, List.length_cons, List.length_nil, List.cons_append, List.nil_append, List.append_nil, List.getElem?_cons_zero, List.getElem?_cons_succ, List.take_succ_cons, List.take_zero, List.take_nil, List.not_mem_nil, ↓reduceIte, Bool.false_eq_true, and_true, not_false_eq_true, decide_false, and_self, Nat.le_refl, Nat.zero_add, Nat.reduceEqDiff, Nat.reduceAdd, Nat.reduceLT, Nat.reduceLeDiff, roundF_eq, kt_nil, data_Tys, h0, h1, h2, hp])

theorem repl_ok {L : Lib} (hL : Plain L) (hf : L.fns 19 = some fn19) (t x : Ty) (hx : TyFit x) : ∀ h : Heap,
    pcall L 19 [.agg [.int .i64 x.kind, .str x.name, .int .i64 x.var, .list (x.args.map encTy) none], .agg [.int .i64 t.kind, .str t.name, .int .i64 t.var, .list (t.args.map encTy) none]] h = some (.val (encTy (repl t x)), h) := by
  have hp := hL.pure
  induction x using Ty.ind with
  | h k n v as ih =>
    cases hx with
    | mk hla ha =>
    intro h
    have hloop := repl_l0 hL k v n t as hla (fun a ha' h => ih a ha' (ha a ha') h)
    unfold repl_C at hloop
    simp only [Int.natCast_zero, ownAt_zero, tailAt_zero, List.map_nil] at hloop
    simp only [Ty.kind_mk, Ty.name_mk, Ty.var_mk, Ty.args_mk]
    rw [repl_eq]
    by_cases hk : k = 0
    · subst hk
      rw [if_pos rfl]
      refine pcall_fn hL hf (data_Ty _) ?_ h
      unfold fn19
      simp -implicitDefEqProofs only [code_ops, code_seq, code_cond, code_ret, ops_cons, ops_nil, aOp, opd, upd_at, upd_none, initTm_at, stepVal, stepHeap, aBin, aInt, isShift, aLoad1, aStore, readAt, aField, leaf, acells_agg, cellsSet, endFn, aResults, aResult, tupled, wipeR_agg, wipeC_list, wipeC_int, wipeC_str, beq_self_eq_true, Option.map_some, Option.getD_some, List.map_cons, List.map_nil, List.length_cons, List.length_nil, List.cons_append, List.nil_append, List.append_nil, List.getElem?_cons_zero, List.getElem?_cons_succ, List.set_cons_zero, List.set_cons_succ, List.take_succ_cons, List.take_zero, List.drop_succ_cons, List.drop_zero, List.take_nil, List.drop_nil, List.all_cons, List.all_nil, ↓reduceIte, Bool.and_true, Bool.false_eq_true, and_self, Nat.le_refl, Nat.add_zero, Nat.zero_add, Nat.reduceEqDiff, Nat.reduceAdd, encTy_eq, outOf_val]
    · rw [if_neg hk]
      have hd : (k == 0) = false := by simpa using hk
      refine pcall_fn hL hf (data_Ty _) ?_ h
      unfold fn19
      rcases own_cases 4 4 as.length with ⟨h1, h2⟩ | ⟨h1, h2⟩ <;> simp -implicitDefEqProofs only [code_skip, code_ops, code_seq, code_cond, code_ret, ops_cons, ops_nil, aOp, opd, upd_at, upd_none, initTm_at, kt_cons, stepVal, stepHeap, aBin, aLen, aInt, isShift, aLoad1, aStore, readAt, aField, fillA, known, leaf, acells_agg, acells_int, acells_str, cellsSet, endFn, aResults, aResult, tupled, code_loopF, gc_mk, gcIds_mk, newIds_nil, newIds_cons, gcMap_at, posOf, ren, renC, renO_box, idsV, idsC, idsO_box, wipeR_agg, wipeC_list, wipeC_int, wipeC_str, isData_list_none, isData_list_full, isData_int, isData_str, isData_ptr, isDataL_nil, Option.map_some, Option.getD_some, List.map_cons, List.map_nil, List.flatMap_cons, List.flatMap_nil, List.length_cons, List.length_nil, List.length_map, List.cons_append, List.nil_append, List.append_nil, List.getElem?_cons_zero, List.getElem?_cons_succ, List.set_cons_zero, List.set_cons_succ, List.take_succ_cons, List.take_zero, List.drop_succ_cons, List.drop_zero, List.take_nil, List.drop_nil, List.all_cons, List.all_nil, List.not_mem_nil, ↓reduceIte, Bool.and_true, Bool.false_eq_true, and_true, not_false_eq_true, and_self, Nat.le_refl, Nat.add_zero, Nat.zero_add, Nat.reduceEqDiff, Nat.reduceAdd, Nat.reduceLT, Nat.reduceLeDiff, encTy_eq, data_Tys, Ty.kind_mk, Ty.name_mk, Ty.var_mk, Ty.args_mk, outOf_val, hd, hloop, h1, h2]

theorem repl_fit {t x : Ty} (ht : TyFit t) (hx : TyFit x) : TyFit (repl t x) := by
  induction x using Ty.ind with
  | h k n v as ih =>
    cases hx with
    | mk hla ha =>
    rw [repl_eq]
    split
    · exact ht
    · refine .mk (by simpa using hla) fun y hy => ?_
      obtain ⟨a, ha', rfl⟩ := List.mem_map.1 hy
      exact ih a ha' (ha a ha')

theorem mat_repl (t a : Ty) : Mat (fun _ => t) a (repl t a) := by
  induction a using Ty.ind with
  | h k n v as ih =>
    rw [repl_eq]
    by_cases hk : k = 0
    · subst hk
      rw [if_pos rfl]
      exact Mat_iff.2 ⟨fun _ => same_refl t, fun h => absurd rfl h⟩
    · rw [if_neg hk]
      refine Mat_iff.2 ⟨fun h => absurd h hk, fun _ => ⟨rfl, fun _ => rfl, ?_⟩⟩
      simp only [Ty.args_mk]
      clear hk
      induction as with
      | nil => exact .nil
      | cons a as ih2 => exact .cons (ih a (by simp)) (ih2 fun b hb => ih b (by simp [hb]))

def oneScheme (t : Ty) (s : Scheme) : Scheme := ⟨s.vars, s.preds.map fun p => ⟨p.cls, repl t p.type⟩, repl t s.type⟩
theorem general_one (t : Ty) (s : Scheme) : generalB s (oneScheme t s) = true :=
  general_of (fun _ => t) (mat_repl t s.type) fun p hp => ⟨⟨p.cls, repl t p.type⟩, List.mem_map.2 ⟨p, hp, rfl⟩, rfl, fun _ => t, mat_repl t s.type, mat_repl t p.type⟩

theorem one_ok {L : Lib} (hL : Plain L) (h19 : L.fns 19 = some fn19) (hf : L.fns 18 = some fn18) (t x : Ty) (hx : TyFit x) (h : Heap) :
    pcall L 18 [.agg [.int .i64 x.kind, .str x.name, .int .i64 x.var, .list (x.args.map encTy) none], .vptr [.int .i64 t.kind, .str t.name, .int .i64 t.var, .list (t.args.map encTy) none] 0] h = some (.val (encTy (repl t x)), h) := by
  have hp := hL.pure
  have h1 := repl_ok hL h19 t x hx
  refine pcall_fn hL hf (data_Ty _) ?_ h
  unfold fn18
  simp -implicitDefEqProofs only [code_ops, code_seq, code_ret, ops_cons, ops_nil, aOp, opd, upd_at, upd_none, initTm_at, stepVal, stepHeap, aStore, readAt, leaf, acells_agg, cellsSet, endFn, aResults, aResult, tupled, wipe_agg, wipeR_agg, wipeC_list, wipeC_int, wipeC_str, isData_list_none, isData_int, isData_str, isData_agg, isDataL_nil, isDataL_cons, Option.map_some, Option.getD_some, List.map_cons, List.map_nil, List.length_cons, List.length_nil, List.cons_append, List.nil_append, List.append_nil, List.getElem?_cons_zero, List.getElem?_cons_succ, List.set_cons_zero, List.set_cons_succ, List.take_succ_cons, List.take_zero, List.drop_succ_cons, List.drop_zero, List.take_nil, List.drop_nil, List.all_cons, List.all_nil, ↓reduceIte, Bool.and_true, and_self, Nat.le_refl, Nat.zero_add, Nat.reduceEqDiff, Nat.reduceAdd, onlyVal, encTy_eq, data_Tys, outOf_val, h1, doCall_p L hp, hp]

def inst_C (s : Scheme) (t u : Ty) (ps : List Pred) (outs : List Pred) (i : Nat) : St :=
  ⟨kt [2, 7, 8, 39, 40, 41] [.ptr (some (0, 0)), .func 18 [] [.vptr [.int .i64 t.kind, .str t.name, .int .i64 t.var, .list (t.args.map encTy) none] 0], .ptr (some (2, 0)), .list (ps.map encPred) none, .int .i64 ps.length, .int .i64 i],
   .box [.int .i64 s.vars, .list (ps.map encPred) none, .int .i64 s.type.kind, .str s.type.name, .int .i64 s.type.var, .list (s.type.args.map encTy) none] :: .gone ::
    .box [.int .i64 s.vars, .list (outs.map encPred) (ownAt 3 i), .int .i64 u.kind, .str u.name, .int .i64 u.var, .list (u.args.map encTy) none] :: tailAt 5 i⟩
theorem inst_l0 {L : Lib} (hL : Plain L) (s : Scheme) (t u : Ty) (ps : List Pred) (hl : ps.length < 2 ^ 30)
    (hs : ∀ p ∈ ps, ∀ h : Heap, pcall L 18 [.agg [.int .i64 p.type.kind, .str p.type.name, .int .i64 p.type.var, .list (p.type.args.map encTy) none], .vptr [.int .i64 t.kind, .str t.name, .int .i64 t.var, .list (t.args.map encTy) none] 0] h = some (.val (encTy (repl t p.type)), h)) :
    loopF L.pure (call L) 3 [2, 7, 8, 39, 40, 41] [2, 8] 0 fn4_l0 (inst_C s t u ps [] 0) =
    some (.normal, ⟨kt [2, 8] [.ptr (some (0, 0)), .ptr (some (2, 0))], (inst_C s t u ps (ps.map fun p => ⟨p.cls, repl t p.type⟩) ps.length).h⟩) := by
  have hp := hL.pure
  refine loopF_append ps (fun p => (⟨p.cls, repl t p.type⟩ : Pred)) (inst_C s t u ps) _ (by
      intro i hi outs hlen
      obtain ⟨h1, h2, h3⟩ := round_facts encPred (ps) hl i hi
      have hm : i + 1 ≤ 1073741824 := by omega
      have ih1 := hs ps[i] (List.getElem_mem hi)
      cases i with
      | zero =>
        obtain rfl := List.eq_nil_of_length_eq_zero hlen
        have h1 : (0 : Int) < (ps).length := by omega
        have h2 : IntKind.i64.wrap 1 = 1 := by decide
        generalize (ps)[0] = a at *
        unfold fn4_l0 inst_C
        simp -implicitDefEqProofs only [code_skip, code_ops, code_draw, code_seq, code_cond, code_block, ops_cons, ops_nil, aOp, opd, upd_at, upd_none, kt_cons, stepVal, stepHeap, aBin, aInt, aIndexList, isShift, aWanted, aLoad1, aStore, readAt, aField, fillA, known, leaf, acells_agg, acells_str, acells_list, cellsSet, gc_mk, gcIds_mk, newIds_nil, newIds_cons, gcMap_at, posOf, ren, renC, renO_gone, renO_box, renO_tail, idsV, idsC, idsO_gone, idsO_box, draw_eq, opsH_nil, opsH_cons, isLoud, aAppend, wipe_agg, wipe_vptr, wipeC_list, wipeC_int, wipeC_str, isData_list_none, isData_list_tail, isData_int, isData_str, isData_agg, isData_func, isData_vptr, isData_ptr, isDataL_nil, isDataL_cons, Option.map_some, Option.getD_some, List.map_cons, List.map_nil, List.flatMap_cons, List.flatMap_nil, List.length_cons, List.length_nil, List.cons_append, List.nil_append, List.append_nil, List.getElem?_cons_zero, List.getElem?_cons_succ, List.set_cons_zero, List.set_cons_succ, List.take_succ_cons, List.take_zero, List.drop_succ_cons, List.drop_zero, List.take_nil, List.drop_nil, List.all_cons, List.all_nil, List.mem_cons, List.not_mem_nil, ↓reduceIte, Bool.and_true, Bool.false_eq_true, and_true, or_false, not_false_eq_true, decide_true, and_self, Nat.le_refl, Nat.add_zero, Nat.zero_add, Nat.reduceEqDiff, Nat.reduceAdd, Nat.reduceSub, Nat.reduceLT, Nat.reduceLeDiff, Int.reduceToNat, Int.reduceLE, List.cons_ne_nil, roundF_eq, maxLen_eq, checksP_cons, checksP_nil, checkP_eq, drawTo_if, forall_const, forall_eq_or_imp, forall_eq, Int.reduceAdd, kt_nil, Int.cast_ofNat_Int, encTy_eq, encPred_eq, data_Tys, data_Preds, ownAt_zero, ownAt_succ, tailAt_zero, tailAt_succ, h1, h2, h3, ih1, doCall_p L hp, hp]
      | succ j =>
        generalize (ps)[j + 1] = a at *
        unfold fn4_l0 inst_C
        simp -implicitDefEqProofs only [code_skip, code_ops, code_draw, code_seq, code_cond, code_block, ops_cons, ops_nil, aOp, opd, upd_at, upd_none, kt_cons, stepVal, stepHeap, aBin, aInt, aIndexList, isShift, aWanted, aLoad1, aStore, readAt, aField, fillA, known, leaf, acells_agg, acells_str, acells_list, cellsSet, gc_mk, gcIds_mk, newIds_nil, newIds_cons, gcMap_at, posOf, ren, renC, renO_gone, renO_box, renO_tail, idsV, idsC, idsO_gone, idsO_box, draw_eq, opsH_nil, opsH_cons, isLoud, aAppend, wipe_agg, wipe_vptr, wipeC_list, wipeC_int, wipeC_str, isData_list_none, isData_list_tail, isData_int, isData_str, isData_agg, isData_func, isData_vptr, isData_ptr, isDataL_nil, isDataL_cons, isDataL_append, Option.map_some, Option.getD_some, List.map_cons, List.map_nil, List.flatMap_cons, List.flatMap_nil, List.length_cons, List.length_nil, List.length_map, List.cons_append, List.nil_append, List.append_nil, List.getElem?_cons_zero, List.getElem?_cons_succ, List.set_cons_zero, List.set_cons_succ, List.take_succ_cons, List.take_zero, List.drop_succ_cons, List.drop_zero, List.take_nil, List.drop_nil, List.all_cons, List.all_nil, List.mem_cons, List.not_mem_nil, ↓reduceIte, Bool.and_true, Bool.false_eq_true, and_true, or_false, not_false_eq_true, decide_true, and_self, Nat.le_refl, Nat.add_zero, Nat.zero_add, Nat.reduceEqDiff, Nat.reduceAdd, Nat.reduceSub, Nat.reduceLT, Nat.reduceLeDiff, Int.toNat_natCast, Int.natCast_nonneg, List.cons_ne_nil, roundF_eq, maxLen_eq, checksP_cons, checksP_nil, checkP_eq, drawTo_if, forall_const, forall_eq_or_imp, forall_eq, List.map_append, kt_nil, encTy_eq, encPred_eq, data_Tys, data_Preds, all_Preds, ownAt_succ, tailAt_succ, h1, h2, h3, hlen, hm, ih1, doCall_p L hp, hp]) (by
      have h0 : ¬ (((ps).length : Int) < (ps).length) := by omega
      unfold fn4_l0 inst_C
      rcases own_cases 3 5 (ps).length with ⟨h1, h2⟩ | ⟨h1, h2⟩ <;>
        simp -implicitDefEqProofs only [code_ops, code_seq, code_cond, code_exit, ops_cons, ops_nil, aOp, opd, upd_at, kt_cons, stepVal, aBin, aInt, isShift, gcE, gc_mk, gcIds_mk, newIds_nil, newIds_cons, gcMap_at, posOf, ren, renC, renO_gone, renO_box, renO_tail, idsV, idsC, idsO_gone, idsO_box, isData_list_none, isData_list_full, isData_list_tail, isData_int, isData_str, isData_ptr, Option.getD_some, List.map_cons, List.map_nil, List.flatMap_cons, List.flatMap_nil, List.length_cons, List.length_nil, List.cons_append, List.nil_append, List.append_nil, List.getElem?_cons_zero, List.getElem?_cons_succ, List.take_succ_cons, List.take_zero, List.take_nil, List.not_mem_nil, ↓reduceIte, Bool.false_eq_true, and_true, not_false_eq_true, decide_false, and_self, Nat.le_refl, Nat.zero_add, Nat.reduceEqDiff, Nat.reduceAdd, Nat.reduceLT, Nat.reduceLeDiff, roundF_eq, kt_nil, data_Tys, data_Preds, h0, h1, h2, hp])

theorem Sig.instanceLaw {L : Lib} {ca : ByteArray → ByteArray → Bool} (X : Sig L ca) (hN : Names ca) (f4 : L.fns 4 = some fn4) (f18 : L.fns 18 = some fn18) (s : Scheme) (t : Ty) (hs : FitScheme s) (ht : TyFit t) (h : Heap) :
    pcall L 4 [.agg (sCells s), .agg [.int .i64 t.kind, .str t.name, .int .i64 t.var, .list (t.args.map encTy) none]] h = some (.val (.bool true), h) := by
  have hp := X.plain.pure
  have hf := X.fact hN
  have h1 := X.generalE s s hs hs
  have hfo : FitScheme (oneScheme t s) := ⟨by simpa [oneScheme] using hs.1, repl_fit ht hs.2.1, fun p hp => by
    obtain ⟨q, hq, rfl⟩ := List.mem_map.1 hp
    exact repl_fit ht (hs.2.2 q hq)⟩
  have h2 := X.generalE s (oneScheme t s) hs hfo
  have e1 : (generalR ca s s).2 ≠ 0 → (generalR ca s s).1 = false := generalR_err
  have e2 : (generalR ca s s).2 = 0 → (generalR ca s s).1 = true := fun h => by
    rw [generalR_ok h]
    refine general_self (schemeError_wf (ca := ca) ?_)
    by_cases hz : schemeError ca s = 0
    · exact hz
    · unfold generalR at h
      rw [if_pos hz] at h
      exact h
  have e3 : (generalR ca s (oneScheme t s)).2 = 0 → (generalR ca s (oneScheme t s)).1 = true := fun h => by
    rw [generalR_ok h]
    exact general_one t s
  have hloop := inst_l0 X.plain s t (repl t s.type) s.preds hs.1 (fun p hp' h => one_ok X.plain X.f19 f18 t p.type (hs.2.2 p hp') h)
  have hone := one_ok X.plain X.f19 f18 t s.type hs.2.1
  unfold sCells at h1 h2 ⊢
  unfold oneScheme at h2 e3
  dsimp only at h2
  unfold inst_C at hloop
  simp only [Int.natCast_zero, ownAt_zero, tailAt_zero, List.map_nil] at hloop
  generalize generalR ca s s = r1 at *
  generalize generalR ca s ⟨s.vars, s.preds.map fun p => ⟨p.cls, repl t p.type⟩, repl t s.type⟩ = r2 at *
  obtain ⟨b1, v1⟩ := r1
  obtain ⟨b2, v2⟩ := r2
  dsimp only at h1 h2 e1 e2 e3
  refine pcall_fn X.plain f4 rfl ?_ h
  unfold fn4
  by_cases h0 : v1 = 0
  · obtain rfl := e2 h0
    subst h0
    by_cases hv : s.vars = 0
    · rw [hv] at h1 ⊢
      simp -implicitDefEqProofs only [code_skip, code_ops, code_seq, code_cond, code_ret, ops_cons, ops_nil, aOp, opd, upd_at, initTm_at, stepVal, aBin, aInt, aUn, isShift, aLoad1, readAt, aField, acells_agg, endFn, aResults, aResult, tupled, wipe_agg, wipeR_bool, wipeC_list, wipeC_int, wipeC_str, isData_list_none, isData_int, isData_str, isData_agg, isDataL_nil, isDataL_cons, beq_self_eq_true, Option.map_some, Option.getD_some, List.map_cons, List.map_nil, List.length_cons, List.length_nil, List.cons_append, List.nil_append, List.getElem?_cons_zero, List.getElem?_cons_succ, List.take_succ_cons, List.drop_zero, List.take_nil, ↓reduceIte, Bool.and_true, Bool.not_true, Bool.false_eq_true, and_self, Nat.le_refl, Nat.add_zero, Nat.zero_add, Nat.reduceEqDiff, Nat.reduceAdd, onlyVal, data_Tys, data_Preds, outOf_val, h1, hf, doCall_p L hp, hp, bne]
    · have hv' : (s.vars == 0) = false := by simpa using hv
      by_cases h3 : v2 = 0
      · obtain rfl := e3 h3
        subst h3
        rcases own_cases 3 5 s.preds.length with ⟨g1, g2⟩ | ⟨g1, g2⟩ <;> simp -implicitDefEqProofs only [code_skip, code_ops, code_draw, code_seq, code_cond, code_ret, ops_cons, ops_cons_g, ops_nil, aOp, opd, upd_at, upd_none, initTm_at, kt_cons, stepVal, stepHeap, aBin, aLen, aInt, aUn, isShift, aWanted, aLoad1, aStore, readAt, aField, fillA, known, leaf, acells_agg, acells_int, cellsSet, endFn, aResults, aResult, tupled, code_loopF, gc_mk, gcIds_mk, newIds_nil, newIds_cons, gcMap_at, posOf, ren, renC, renO_gone, renO_box, idsV, idsC, idsO_gone, idsO_box, draw_eq, opsH_nil, opsH_cons, isLoud, wipe_agg, wipeR_bool, wipe_vptr, wipeC_list, wipeC_int, wipeC_str, isData_list_none, isData_list_full, isData_int, isData_str, isData_agg, isData_func, isData_vptr, isData_ptr, isDataL_nil, isDataL_cons, beq_self_eq_true, Option.map_some, Option.getD_some, List.map_cons, List.map_nil, List.flatMap_cons, List.flatMap_nil, List.length_cons, List.length_nil, List.length_map, List.cons_append, List.nil_append, List.append_nil, List.getElem?_cons_zero, List.getElem?_cons_succ, List.set_cons_zero, List.set_cons_succ, List.take_succ_cons, List.take_zero, List.drop_succ_cons, List.drop_zero, List.take_nil, List.drop_nil, List.all_cons, List.all_nil, List.mem_cons, List.not_mem_nil, ↓reduceIte, Bool.and_true, Bool.not_true, Bool.false_eq_true, and_true, or_false, not_false_eq_true, and_self, Nat.le_refl, reduceCtorEq, Nat.add_zero, Nat.zero_add, Nat.reduceEqDiff, Nat.reduceAdd, Nat.reduceSub, Nat.reduceLT, Nat.reduceLeDiff, checksP_cons, checksP_nil, checkP_eq, drawTo_if, forall_const, forall_eq_or_imp, forall_eq, code_freeze, freezeS_mk, frzT_at, frz, frzC, frzO, onlyVal, qCall, encTy_eq, data_Tys, data_Preds, outOf_val, h1, hf, hv', hloop, hone, h2, g1, g2, doCall_p L hp, hp, bne]
      · have h3' : (v2 == 0) = false := by simpa using h3
        rcases own_cases 3 5 s.preds.length with ⟨g1, g2⟩ | ⟨g1, g2⟩ <;> simp -implicitDefEqProofs only [code_skip, code_ops, code_draw, code_seq, code_cond, code_ret, ops_cons, ops_cons_g, ops_nil, aOp, opd, upd_at, upd_none, initTm_at, kt_cons, stepVal, stepHeap, aBin, aLen, aInt, aUn, isShift, aWanted, aLoad1, aStore, readAt, aField, fillA, known, leaf, acells_agg, acells_int, cellsSet, endFn, aResults, aResult, tupled, code_loopF, gc_mk, gcIds_mk, newIds_nil, newIds_cons, gcMap_at, posOf, ren, renC, renO_gone, renO_box, idsV, idsC, idsO_gone, idsO_box, draw_eq, opsH_nil, opsH_cons, isLoud, wipe_agg, wipeR_bool, wipe_vptr, wipeC_list, wipeC_int, wipeC_str, isData_list_none, isData_list_full, isData_int, isData_str, isData_agg, isData_func, isData_vptr, isData_ptr, isDataL_nil, isDataL_cons, beqTF, beq_self_eq_true, Option.map_some, Option.getD_some, List.map_cons, List.map_nil, List.flatMap_cons, List.flatMap_nil, List.length_cons, List.length_nil, List.length_map, List.cons_append, List.nil_append, List.append_nil, List.getElem?_cons_zero, List.getElem?_cons_succ, List.set_cons_zero, List.set_cons_succ, List.take_succ_cons, List.take_zero, List.drop_succ_cons, List.drop_zero, List.take_nil, List.drop_nil, List.all_cons, List.all_nil, List.mem_cons, List.not_mem_nil, ↓reduceIte, Bool.and_true, Bool.not_true, Bool.not_false, Bool.false_eq_true, and_true, or_false, not_false_eq_true, and_self, Nat.le_refl, reduceCtorEq, Nat.add_zero, Nat.zero_add, Nat.reduceEqDiff, Nat.reduceAdd, Nat.reduceSub, Nat.reduceLT, Nat.reduceLeDiff, checksP_cons, checksP_nil, checkP_eq, drawTo_if, forall_const, forall_eq_or_imp, forall_eq, code_freeze, freezeS_mk, frzT_at, frz, frzC, frzO, onlyVal, qCall, encTy_eq, data_Tys, data_Preds, outOf_val, h1, hf, hv', hloop, hone, h2, h3', g1, g2, doCall_p L hp, hp, bne]
  · obtain rfl := e1 h0
    have h0' : (v1 == 0) = false := by simpa using h0
    simp -implicitDefEqProofs only [code_skip, code_ops, code_seq, code_cond, code_ret, ops_cons, ops_nil, aOp, opd, upd_at, initTm_at, stepVal, aBin, aInt, aUn, isShift, readAt, acells_agg, endFn, aResults, aResult, tupled, wipe_agg, wipeR_bool, wipeC_list, wipeC_int, wipeC_str, isData_list_none, isData_int, isData_str, isData_agg, isDataL_nil, isDataL_cons, Option.map_some, Option.getD_some, List.map_cons, List.map_nil, List.length_cons, List.length_nil, List.cons_append, List.nil_append, List.getElem?_cons_zero, List.getElem?_cons_succ, List.take_succ_cons, List.drop_zero, List.take_nil, ↓reduceIte, Bool.and_true, Bool.not_true, Bool.not_false, Bool.false_eq_true, and_self, Nat.le_refl, Nat.zero_add, Nat.reduceEqDiff, Nat.reduceAdd, onlyVal, data_Tys, data_Preds, outOf_val, h1, hf, h0', doCall_p L hp, hp, bne]
end Go.Abs
