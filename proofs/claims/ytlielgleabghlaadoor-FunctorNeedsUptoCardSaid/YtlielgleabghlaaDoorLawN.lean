/-
  The laws FunctorNeeds and FunctorTwice on the abstract machine. Conditions: none.
-/
import Derived.Test.YtlielgleabghlaaDoorLawM

set_option linter.unusedVariables false
set_option linter.unusedSimpArgs false
set_option maxRecDepth 100000
set_option maxHeartbeats 8000000
namespace Go.Abs

theorem flat_len3 {α β γ : Type} (f : α → β) (g : α → List γ) (g' : β → List γ) (h : ∀ a, (g' (f a)).length = (g a).length) : ∀ l : List α, ((l.map f).flatMap g').length = (l.flatMap g).length
  | [] => rfl
  | a :: l => by simp only [List.map_cons, List.flatMap_cons, List.length_append, h, flat_len3 f g g' h l]
theorem fit_out {l : List SigMap} (hl : ∀ m ∈ l, TyFit m.type) {y : SigSpec} (hy : FitSpec y) : FitSpec (appOut l y) := by
  refine ⟨by simpa [appOut] using hy.datas, fun d hd => ?_, by simpa [appOut] using hy.vals, fun v hv => ?_, ?_⟩
  · obtain ⟨d, hd', rfl⟩ := List.mem_map.1 hd
    obtain ⟨h1, h2, h3⟩ := hy.data d hd'
    refine ⟨by simpa [dataMap] using h1, h2, fun c hc => ?_⟩
    obtain ⟨c, hc', rfl⟩ := List.mem_map.1 hc
    refine ⟨by simpa [conMap] using (h3 c hc').1, fun t ht => ?_⟩
    obtain ⟨t, ht', rfl⟩ := List.mem_map.1 ht
    exact subst_fit hl ((h3 c hc').2 t ht')
  · obtain ⟨v, hv', rfl⟩ := List.mem_map.1 hv
    exact mapped_fit hl (hy.val v hv')
  · have h1 : (typesOf (appOut l y)).length = (typesOf y).length := by
      unfold typesOf dataTypes valTypes appOut
      simp only [List.length_append]
      rw [flat_len3 (dataMap l) (fun d => consTypes d.cons) (fun d => consTypes d.cons) ?_ y.datas, flat_len3 (valMap l) (fun v => predTypes v.scheme.preds ++ [v.scheme.type]) (fun v => predTypes v.scheme.preds ++ [v.scheme.type]) ?_ y.vals]
      · intro v
        simp [valMap, mapped, predTypes]
      · intro d
        unfold consTypes dataMap
        exact flat_len3 (conMap l) _ _ (fun c => by simp [conMap]) d.cons
    rw [h1]
    exact hy.types

theorem fit_none : FitSpec ⟨[], []⟩ := ⟨by decide, (fun d hd => by cases hd), by decide, (fun v hv => by cases hv), by decide⟩
theorem fit_apply {ca : ByteArray → ByteArray → Bool} (f : SigFunctor) (arg : SigSpec) (hn : FitSpec f.needs) (hy : FitSpec f.yields) (name ns : ByteArray) : FitSpec (applyR ca f arg name ns) := by
  unfold applyR
  split
  · exact fit_none
  · rename_i h
    have hc : checkFun ca f = 0 := by
      unfold appErr at h
      by_cases h' : checkFun ca f = 0
      · exact h'
      · rw [if_pos h'] at h
        exact absurd h' h
    obtain ⟨c1, c2, c3⟩ := checkFun_zero hc
    refine fit_out (fun m hm => ?_) hy
    rcases List.mem_append.1 hm with hm | hm
    · exact ((matchR_types (ca := ca) (I := arg) (name := name) hn.datas (fun _ => small_of_check c2)).2 m hm).fit
    · obtain ⟨d, hd, rfl⟩ := List.mem_map.1 hm
      exact (mapOf_ok _ d (small_of_check c3 d hd)).fit

def nmN : ByteArray := ⟨#[78]⟩
section
variable {L : Lib} {ca : ByteArray → ByteArray → Bool} (X : Sig L ca) (hN : Names ca)
include X hN
theorem Sig.needs (f26 : L.fns 26 = some fn26) (f9 : L.fns 9 = some fn9) (f : SigFunctor) (arg : SigSpec) (hn : FitSpec f.needs) (hy : FitSpec f.yields) (ha : FitSpec arg) (n1 : ByteArray) (hs1 : n1.size ≤ 2 ^ 20)
    (i1 : ∀ h : Heap, pcall L 48 [.int .i64 1] h = some (.val (.str n1), h)) (h : Heap) :
    pcall L 9 [.agg (fCells f), .agg [.list (arg.datas.map encData) none, .list (arg.vals.map encVal) none]] h = some (.val (.bool true), h) := by
  have hp := X.plain.pure
  have hf := X.fact hN
  have h1 := X.apply_ok f26 f arg hn hy ha nmM n1 (by decide) hs1 1 (by decide) (by decide) i1
  have h2 := X.match_any arg f.needs ha hn nmM (by decide)
  have h3 := X.checkFun_ok f hn hy
  have e1 : appErr ca f arg nmM = if checkFun ca f ≠ 0 then checkFun ca f else (matchR ca arg f.needs nmM).2 := rfl
  unfold nmM at h1 h2 e1
  generalize matchR ca arg f.needs ⟨#[77]⟩ = r2 at *
  generalize appErr ca f arg ⟨#[77]⟩ = r1 at *
  generalize applyR ca f arg ⟨#[77]⟩ n1 = out at *
  generalize checkFun ca f = r3 at *
  obtain ⟨l2, v2⟩ := r2
  dsimp only at h2 e1
  refine pcall_fn X.plain f9 rfl ?_ h
  unfold fCells at h1 h3 ⊢
  unfold fn9
  by_cases h0 : r3 = 0
  · subst h0
    rw [if_neg (by simp)] at e1
    subst e1
    simp -implicitDefEqProofs only [code_skip, code_ops, code_seq, code_cond, code_ret, ops_cons, ops_cons_g, ops_nil, aOp, opd, upd_at, upd_none, initTm_at, stepVal, stepHeap, aBin, aInt, isShift, aWanted, aStore, readAt, aField, leaf, acells_agg, cellsSet, endFn, aResults, aResult, tupled, wipe_agg, wipe_int, wipe_str, wipeR_bool, wipeC_list, wipeC_bool, wipeC_str, isData_list_none, isData_bool, isData_int, isData_str, isData_agg, isDataL_nil, isDataL_cons, beq_self_eq_true, Option.map_some, Option.getD_some, List.map_cons, List.map_nil, List.length_cons, List.length_nil, List.cons_append, List.nil_append, List.append_nil, List.getElem?_cons_zero, List.getElem?_cons_succ, List.set_cons_zero, List.set_cons_succ, List.take_succ_cons, List.take_zero, List.drop_succ_cons, List.drop_zero, List.take_nil, List.drop_nil, List.all_cons, List.all_nil, ↓reduceIte, Bool.and_true, Bool.not_true, Bool.false_eq_true, and_self, Nat.le_refl, Nat.zero_add, Nat.reduceEqDiff, Nat.reduceAdd, Nat.reduceLeDiff, onlyVal, data_Datas, data_Vals, outOf_val, h1, h2, h3, hf, doCall_p L hp, hp, bne]
  · have h0' : (r3 == 0) = false := by simpa using h0
    rw [if_pos h0] at e1
    subst e1
    simp -implicitDefEqProofs only [code_ops, code_seq, code_cond, code_ret, ops_cons, ops_cons_g, ops_nil, aOp, opd, upd_at, upd_none, initTm_at, stepVal, stepHeap, aBin, aInt, isShift, aWanted, aStore, readAt, aField, leaf, acells_agg, cellsSet, endFn, aResults, aResult, tupled, wipe_agg, wipe_int, wipe_str, wipeR_bool, wipeC_list, wipeC_bool, wipeC_str, isData_list_none, isData_bool, isData_int, isData_str, isData_agg, isDataL_nil, isDataL_cons, beq_self_eq_true, Option.map_some, Option.getD_some, List.map_cons, List.map_nil, List.length_cons, List.length_nil, List.cons_append, List.nil_append, List.append_nil, List.getElem?_cons_zero, List.getElem?_cons_succ, List.set_cons_zero, List.set_cons_succ, List.take_succ_cons, List.take_zero, List.drop_succ_cons, List.drop_zero, List.take_nil, List.drop_nil, List.all_cons, List.all_nil, ↓reduceIte, Bool.and_true, Bool.not_false, Bool.false_eq_true, and_self, Nat.le_refl, Nat.zero_add, Nat.reduceEqDiff, Nat.reduceAdd, Nat.reduceLeDiff, onlyVal, data_Datas, data_Vals, outOf_val, h1, h2, h3, hf, h0', doCall_p L hp, hp, bne]

theorem Sig.twice (f26 : L.fns 26 = some fn26) (f7 : L.fns 7 = some fn7) (f : SigFunctor) (arg : SigSpec) (hn : FitSpec f.needs) (hy : FitSpec f.yields) (ha : FitSpec arg) (n1 n2 : ByteArray) (hs1 : n1.size ≤ 2 ^ 20) (hs2 : n2.size ≤ 2 ^ 20)
    (i1 : ∀ h : Heap, pcall L 48 [.int .i64 1] h = some (.val (.str n1), h)) (i2 : ∀ h : Heap, pcall L 48 [.int .i64 2] h = some (.val (.str n2), h)) (h : Heap) :
    pcall L 7 [.agg (fCells f), .agg [.list (arg.datas.map encData) none, .list (arg.vals.map encVal) none]] h = some (.val (.bool true), h) := by
  have hp := X.plain.pure
  have hf := X.fact hN
  have h1 := X.apply_ok f26 f arg hn hy ha nmM n1 (by decide) hs1 1 (by decide) (by decide) i1
  have ho := fit_apply (ca := ca) f arg hn hy nmM n1
  have h2 := X.match_any (applyR ca f arg nmM n1) f.needs ho hn nmN (by decide)
  have h3 := X.apply_ok f26 f (applyR ca f arg nmM n1) hn hy ho nmN n2 (by decide) hs2 2 (by decide) (by decide) i2
  have e1 : appErr ca f arg nmM ≠ 0 → (applyR ca f arg nmM n1).datas = [] := fun h => by unfold applyR; rw [if_pos h]
  have e2 : appErr ca f arg nmM = 0 → appErr ca f (applyR ca f arg nmM n1) nmN = (matchR ca (applyR ca f arg nmM n1) f.needs nmN).2 := fun h => by
    unfold appErr at h ⊢
    split at h
    · rename_i h'
      exact absurd h h'
    · rename_i h'
      rw [if_neg h']
  unfold nmM at h1
  unfold nmM nmN at h2 h3 e2
  unfold nmM at e1
  generalize applyR ca f arg ⟨#[77]⟩ n1 = out at *
  generalize applyR ca f out ⟨#[78]⟩ n2 = out2 at *
  generalize matchR ca out f.needs ⟨#[78]⟩ = r2 at *
  generalize appErr ca f arg ⟨#[77]⟩ = r1 at *
  generalize appErr ca f out ⟨#[78]⟩ = r3 at *
  obtain ⟨l2, v2⟩ := r2
  dsimp only at h2 e2
  refine pcall_fn X.plain f7 rfl ?_ h
  unfold fCells at h1 h3 ⊢
  unfold fn7
  by_cases h0 : r1 = 0
  · subst h0
    obtain rfl := e2 rfl
    simp -implicitDefEqProofs only [code_skip, code_ops, code_seq, code_cond, code_ret, ops_cons, ops_cons_g, ops_nil, aOp, opd, upd_at, upd_none, initTm_at, stepVal, stepHeap, aBin, aInt, isShift, aWanted, aStore, readAt, aField, leaf, acells_agg, cellsSet, endFn, aResults, aResult, tupled, wipe_agg, wipe_int, wipe_str, wipeR_bool, wipeC_list, wipeC_bool, wipeC_str, isData_list_none, isData_bool, isData_int, isData_str, isData_agg, isDataL_nil, isDataL_cons, beq_self_eq_true, Option.map_some, Option.getD_some, List.map_cons, List.map_nil, List.length_cons, List.length_nil, List.cons_append, List.nil_append, List.append_nil, List.getElem?_cons_zero, List.getElem?_cons_succ, List.set_cons_zero, List.set_cons_succ, List.take_succ_cons, List.take_zero, List.drop_succ_cons, List.drop_zero, List.take_nil, List.drop_nil, List.all_cons, List.all_nil, ↓reduceIte, Bool.and_true, Bool.not_true, Bool.false_eq_true, and_self, Nat.le_refl, Nat.zero_add, Nat.reduceEqDiff, Nat.reduceAdd, Nat.reduceLeDiff, onlyVal, data_Datas, data_Vals, outOf_val, h1, h2, h3, hf, doCall_p L hp, hp, bne]
  · have h0' : (r1 == 0) = false := by simpa using h0
    obtain e1 := e1 h0
    simp -implicitDefEqProofs only [code_ops, code_seq, code_cond, code_ret, ops_cons, ops_cons_g, ops_nil, aOp, opd, upd_at, upd_none, initTm_at, stepVal, stepHeap, aBin, aLen, aInt, isShift, aWanted, aLoad1, aStore, readAt, aField, leaf, acells_agg, cellsSet, endFn, aResults, aResult, tupled, wipe_agg, wipe_int, wipe_str, wipeR_bool, wipeC_list, wipeC_bool, wipeC_str, isData_list_none, isData_bool, isData_int, isData_str, isData_agg, isDataL_nil, isDataL_cons, beq_self_eq_true, Option.map_some, Option.getD_some, List.map_cons, List.map_nil, List.length_cons, List.length_nil, List.cons_append, List.nil_append, List.append_nil, List.getElem?_cons_zero, List.getElem?_cons_succ, List.set_cons_zero, List.set_cons_succ, List.take_succ_cons, List.take_zero, List.drop_succ_cons, List.drop_zero, List.take_nil, List.drop_nil, List.all_cons, List.all_nil, ↓reduceIte, Bool.and_true, Bool.not_false, Bool.false_eq_true, and_self, Nat.le_refl, Nat.add_zero, Nat.zero_add, Nat.reduceEqDiff, Nat.reduceAdd, Int.cast_ofNat_Int, onlyVal, data_Datas, data_Vals, outOf_val, h1, hf, h0, h0', e1, doCall_p L hp, hp, bne]
end
end Go.Abs
