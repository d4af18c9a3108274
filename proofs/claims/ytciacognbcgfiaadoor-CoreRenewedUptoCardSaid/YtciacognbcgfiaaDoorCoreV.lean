/-
  Order, Same, SameList, and the fixed example: the walk. Conditions: none.
-/
import Derived.Test.YtciacognbcgfiaaDoorCoreU
set_option linter.unusedVariables false
set_option linter.unusedSimpArgs false
set_option maxRecDepth 100000
set_option maxHeartbeats 4000000
namespace Go.Abs
structure CLib2 (L : Lib) : Prop extends CLib L where
  f130 : L.fns 130 = some fn130
  f131 : L.fns 131 = some fn131
  f132 : L.fns 132 = some fn132
  f133 : L.fns 133 = some fn133
  f139 : L.fns 139 = some fn139
  f154 : L.fns 154 = some fn154
  f159 : L.fns 159 = some fn159
  f161 : L.fns 161 = some fn161
  f162 : L.fns 162 = some fn162
  f163 : L.fns 163 = some fn163
  f164 : L.fns 164 = some fn164
  f177 : L.fns 177 = some fn177
  f183 : L.fns 183 = some fn183
  f187 : L.fns 187 = some fn187
  f189 : L.fns 189 = some fn189
/-! ### A tree equals itself -/
def IdMap (m : IM Int) : Prop := ∀ v w, findK v m = some w → w = v
theorem IdMap.put {m : IM Int} (h : IdMap m) (v : Int) : IdMap (putK v v m) := by
  intro x w hx
  rw [findK_put] at hx
  split at hx
  · injection hx with hx
    omega
  · exact h x w hx
theorem IdMap.zip : ∀ (l : List Int) {m : IM Int}, IdMap m → IdMap (putZip l l m)
  | [], m, h => h
  | x :: l, m, h => IdMap.zip l (h.put x)
/-! ### What a valid expression is -/
theorem check_tree {e : List CExpr} (h : checkErr e = 0) : TreeL e ∧ e.length ≤ 4096 ∧ hgt (grow1 e) ≤ 400 ∧ (∀ x ∈ e, labErr false (labX e x) = 0) ∧ (e.flatMap bindersX).Nodup ∧ freeOf (grow1 e) = [] := by
  unfold checkErr bodyErr at h
  by_cases h1 : treeErr e = 0
  · rw [if_neg (fun hx => hx h1)] at h
    obtain ⟨a, b, c⟩ := (treeErr_zero e).1 h1
    by_cases h2 : firstErr (e.map fun x => labErr false (labX e x)) = 0
    · rw [if_neg (fun hx => hx h2)] at h
      rw [twice_nodup] at h
      by_cases h3 : (e.flatMap bindersX).Nodup
      · simp only [h3, decide_true, Bool.not_true, Bool.false_eq_true, if_false] at h
        refine ⟨a, b, c, (firstErr_zero _ e).1 h2, h3, ?_⟩
        cases hf : freeOf (grow1 e) with
        | nil => rfl
        | cons n l => rw [hf] at h; simp [inI'] at h
      · simp only [h3, decide_false, Bool.not_false, if_true] at h
        cases h
    · rw [if_pos h2] at h
      exact absurd h h2
  · rw [if_pos h1] at h
    exact absurd h h1
theorem lab_bfit {e : List CExpr} (hT : TreeL e) (hn : e.length ≤ 4096) (hz : ∀ x ∈ e, labErr false (labX e x) = 0) : ∀ x ∈ e, BFit x := by
  intro x hx
  have h0 := hz x hx
  unfold labErr at h0
  split at h0
  · cases h0
  · have := err_bfit h0 (by unfold labX; rw [List.length_map]; have := kids_le e hT x hx; omega)
    unfold BFit
    unfold labX at this
    dsimp only at this
    omega
theorem check_fit {e : List CExpr} (h : checkErr e = 0) (hf : ∀ x ∈ e, NodeFit x) : TFit (grow1 e) ∧ tsize (grow1 e) = e.length := by
  obtain ⟨a, b, c, d, _, _⟩ := check_tree h
  exact ⟨tfit_at e a.ahead hf (lab_bfit a b d) _ (by have := a.pos; omega), tsize_grow e a⟩
mutual
theorem list_fit : ∀ (t : CTree) (b : Nat), TFit t → ∀ x ∈ listT t b, NodeFit x
  | .mk op n binds kids alts, b, h => by
    cases h with
    | mk _ _ _ _ _ hb hk ha hfk =>
      rw [listT]
      intro x hx
      rcases List.mem_append.1 hx with hx | hx
      · exact list_fits kids b hfk x hx
      · rw [List.mem_singleton.1 hx]
        rw [List.length_append] at hb
        exact ⟨by dsimp only; omega, by dsimp only; rw [rootsTs_len]; exact hk, ha, fun a hm => by have := flat_len alts hm; omega⟩
theorem list_fits : ∀ (ks : List CTree) (b : Nat), (∀ k ∈ ks, TFit k) → ∀ x ∈ listTs ks b, NodeFit x
  | [], b, _ => by rw [listTs]; intro x hx; cases hx
  | k :: ks, b, h => by
    rw [listTs]
    intro x hx
    rcases List.mem_append.1 hx with hx | hx
    · exact list_fit k b (h k (by simp)) x hx
    · exact list_fits ks _ (fun y hy => h y (by simp [hy])) x hx
end
def sameOf (a b : List CExpr) : Bool := (checkErr a == 0) && (checkErr b == 0) && (sameF (grow1 a) (grow1 b) []).1
section
variable {L : Lib} (hC : CLib2 L)
include hC
theorem same133_ok (a b : List CExpr) (ha : a.length < 2 ^ 30) (hfa : ∀ x ∈ a, NodeFit x) (hb : b.length < 2 ^ 30) (hfb : ∀ x ∈ b, NodeFit x) (h : Heap) :
    pcall L 133 [.list (a.map encExpr) none, .list (b.map encExpr) none] h = some (.val (.bool (sameOf a b)), h) := by
  have hL := hC.plain
  have hp := hL.pure
  have hdA := data_Exprs a
  have hdB := data_Exprs b
  have hca := check_ok hC.toCLib a ha hfa
  have hcb := check_ok hC.toCLib b hb hfb
  refine pcall_fn hL hC.f133 rfl ?_ h
  unfold sameOf
  by_cases hz : checkErr a = 0
  · by_cases hy : checkErr b = 0
    · rw [hz] at hca
      rw [hy] at hcb
      obtain ⟨hT, _, hdp, _⟩ := check_tree hz
      obtain ⟨hT', _, hdp', _⟩ := check_tree hy
      obtain ⟨hft, _⟩ := check_fit hz hfa
      obtain ⟨hft', _⟩ := check_fit hy hfb
      have hg := fun h => hC.grow a h ha hfa hT hdp
      have hg' := fun h => hC.grow b h hb hfb hT' hdp'
      have hs := sameTree_ok hL hC.f139 hC.f232 hC.f189 hC.f164 (grow1 a) (grow1 b) hft hft'
      obtain ⟨tc, htc, hdt⟩ := enc_vptr (grow1 a)
      obtain ⟨tc', htc', hdt'⟩ := enc_vptr (grow1 b)
      rw [htc] at hg hs
      rw [htc'] at hg' hs
      rw [hz, hy]
      unfold fn133
      simp -implicitDefEqProofs only [code_ops, code_seq, code_ret, ops_cons, ops_cons_g, ops_nil, aOp, opd, upd_at, initTm_at, stepVal, aBin, aInt, isShift, aWanted, endFn, aResults, aResult, tupled, wipe_list, wipeR_bool, wipe_vptr, isData_list_none, isData_vptr, isDataL_nil, isDataL_cons, beq_self_eq_true, Option.getD_some, List.map_cons, List.map_nil, List.getElem?_cons_zero, List.getElem?_cons_succ, ↓reduceIte, Bool.and_true, Bool.true_and, Bool.false_eq_true, and_self, reduceCtorEq, Nat.reduceEqDiff, onlyVal, outOf_val, hca, hcb, hg, hg', hs, hdA, hdB, hdt, hdt', doCall_p L hp, hp]
    · have hy' : (checkErr b == 0) = false := by simpa using hy
      rw [hz] at hca
      rw [hz, hy']
      unfold fn133
      simp -implicitDefEqProofs only [code_ops, code_seq, code_ret, ops_cons, ops_cons_g, ops_nil, aOp, opd, upd_at, initTm_at, stepVal, aBin, aInt, isShift, aWanted, endFn, aResults, aResult, tupled, wipe_list, wipeR_bool, isData_list_none, isDataL_nil, isDataL_cons, beqFT, beq_self_eq_true, Option.getD_some, List.map_cons, List.map_nil, List.getElem?_cons_zero, List.getElem?_cons_succ, ↓reduceIte, Bool.and_true, Bool.and_false, Bool.false_and, Bool.false_eq_true, and_self, reduceCtorEq, Nat.reduceEqDiff, onlyVal, outOf_val, hca, hcb, hy', hdA, hdB, doCall_p L hp, hp]
  · have hz' : (checkErr a == 0) = false := by simpa using hz
    rw [hz']
    unfold fn133
    simp -implicitDefEqProofs only [code_ops, code_seq, code_ret, ops_cons, ops_cons_g, ops_nil, aOp, opd, upd_at, initTm_at, stepVal, aBin, aInt, isShift, aWanted, endFn, aResults, aResult, tupled, wipe_list, wipeR_bool, isData_list_none, isDataL_nil, isDataL_cons, beqFT, Option.getD_some, List.map_cons, List.map_nil, List.getElem?_cons_zero, ↓reduceIte, Bool.and_true, Bool.false_and, Bool.false_eq_true, and_self, reduceCtorEq, Nat.reduceEqDiff, onlyVal, outOf_val, hca, hz', hdA, hdB, doCall_p L hp, hp]
end
/-! ### The fixed example -/
def leafE (n : Int) : CExpr := ⟨0, n, [], [], []⟩
def lamE (n : Int) : CExpr := ⟨2, 0, [n], [0], []⟩
def exE (n : Int) : List CExpr := [leafE n, lamE n]
def leafN (n : Int) : AVal := .vptr [.int .i64 0, .int .i64 n, .list [] none, .list [] none, .list [] none, .list [] none] 0
def lamN (n : Int) : AVal := .vptr [.int .i64 2, .int .i64 0, .list [.int .i64 n] none, .list [] none, .list [] none, .list [leafN n] none] 0
theorem exE_ok (n : Int) (h : 0 ≤ n ∧ n < 10) : ∀ x ∈ exE n, NodeFit x := by
  intro x hx
  unfold exE leafE lamE at hx
  rcases List.mem_cons.1 hx with rfl | hx
  · exact ⟨by simp, by simp, by simp, by simp⟩
  · rcases List.mem_cons.1 hx with rfl | hx
    · exact ⟨by simp, by simp, by simp, by simp⟩
    · cases hx
theorem fact_same : sameOf (exE 1) (exE 2) = true := by decide
section
variable {L : Lib} (hC : CLib2 L)
include hC
theorem v_ok (n : Int) (h : Heap) : pcall L 162 [.int .i64 n] h = some (.val (leafN n), h) := by
  have hL := hC.plain
  have hp := hL.pure
  have hn : ∀ h, pcall L 177 [.int .i64 0, .int .i64 n, .list [] none] h = some (.val (leafN n), h) := by
    refine fun h => pcall_fn hL hC.f177 rfl ?_ h
    unfold fn177 leafN
    simp -implicitDefEqProofs only [code_ops, code_seq, code_ret, ops_cons, ops_nil, aOp, opd, upd_at, initTm_at, stepVal, fillA, known, leaf, acells_agg, acells_int, acells_list, cellsSet, endFn, aResults, aResult, tupled, wipeC_list, wipeC_int, isData_list_none, isData_int, isDataL_nil, isDataL_cons, Option.map_some, Option.getD_some, List.map_cons, List.map_nil, List.length_cons, List.length_nil, List.cons_append, List.nil_append, List.append_nil, List.getElem?_cons_zero, List.getElem?_cons_succ, List.set_cons_zero, List.take_succ_cons, List.take_zero, List.drop_succ_cons, List.drop_zero, List.drop_nil, List.all_cons, List.all_nil, ↓reduceIte, Bool.and_true, and_self, Nat.le_refl, reduceCtorEq, Nat.zero_add, Nat.reduceEqDiff, Nat.reduceAdd, Nat.reduceLeDiff, code_freeze, freezeS_mk, frzAt_mk, frzT_at, frz, frzC, frzO, outOf_val, wipeR_vptr]
  refine pcall_fn hL hC.f162 rfl ?_ h
  unfold leafN at hn ⊢
  unfold fn162
  simp -implicitDefEqProofs only [code_ops, code_seq, code_ret, ops_cons, ops_nil, aOp, opd, upd_at, initTm_at, endFn, aResults, aResult, tupled, wipe_list, wipe_int, isData_list_none, isData_int, isDataL_nil, isDataL_cons, Option.getD_some, List.map_cons, List.map_nil, List.getElem?_cons_zero, ↓reduceIte, Bool.and_true, and_self, reduceCtorEq, onlyVal, outOf_val, hn, wipeR_vptr, doCall_p L hp, hp]
theorem b_ok (n : Int) (h : Heap) : pcall L 161 [.int .i64 2, .list [.int .i64 n] none, .list [leafN n] none] h = some (.val (lamN n), h) := by
  have hL := hC.plain
  have hp := hL.pure
  refine pcall_fn hL hC.f161 rfl ?_ h
  have hd : isData (leafN n) = true := rfl
  unfold fn161 lamN
  generalize leafN n = A at *
  simp -implicitDefEqProofs only [code_ops, code_seq, code_ret, ops_cons, ops_nil, aOp, opd, upd_at, initTm_at, stepVal, fillA, known, leaf, acells_agg, acells_int, acells_list, cellsSet, endFn, aResults, aResult, tupled, wipeC_list, wipeC_int, isData_list_none, isData_int, isDataL_nil, isDataL_cons, Option.map_some, Option.getD_some, List.map_cons, List.map_nil, List.length_cons, List.length_nil, List.cons_append, List.nil_append, List.append_nil, List.getElem?_cons_zero, List.getElem?_cons_succ, List.set_cons_zero, List.take_succ_cons, List.take_zero, List.drop_succ_cons, List.drop_zero, List.drop_nil, List.all_cons, List.all_nil, ↓reduceIte, Bool.and_true, and_self, Nat.le_refl, reduceCtorEq, Nat.zero_add, Nat.reduceEqDiff, Nat.reduceAdd, Nat.reduceLeDiff, code_freeze, freezeS_mk, frzAt_mk, frzT_at, frz, frzC, frzO, outOf_val, hd, wipeR_vptr]
theorem into_leaf (n : Int) : call L 183 [leafN n, .ptr (some (0, 0))] [.box [.list [] (some none)]] = some (.val (.int .i64 0), [.box [.list [encExpr (leafE n)] (some (some 1))], .tail 1 5]) := by
  have hL := hC.plain
  have hp := hL.pure
  have hs : L.summ 183 = none := hL.summ 183 (by rw [hC.f183]; exact fun hx => by cases hx)
  refine call_of hs hC.f183 ?_
  have hloop : loopF L.pure (call L) 2 [1, 5, 16, 17, 18] [1, 5] 0 fn183_l0 ⟨kt [1, 5, 16, 17, 18] [.ptr (some (0, 0)), .ptr (some (1, 0)), .list [] none, .int .i64 0, .int .i64 0], [.box [.list [] (some none)], .box [.int .i64 0, .int .i64 n, .list [] none, .list [] (some none), .list [] none]]⟩ =
      some (.normal, ⟨kt [1, 5] [.ptr (some (0, 0)), .ptr (some (1, 0))], [.box [.list [] (some none)], .box [.int .i64 0, .int .i64 n, .list [] none, .list [] (some none), .list [] none]]⟩) := by
    refine loopF_exit ?_
    unfold fn183_l0
    simp -implicitDefEqProofs only [code_ops, code_seq, code_cond, code_exit, ops_cons, ops_nil, aOp, opd, upd_at, kt_cons, stepVal, aBin, aInt, isShift, gcE, gc_mk, isTrim_cons, gcIds_mk, newIds_nil, newIds_cons, gcMap_at, posOf, ren, renC, renO_box, idsV, idsC, idsO_box, isData_list_none, isData_list_full, isData_int, isData_ptr, isDataL_nil, List.map_cons, List.map_nil, List.flatMap_cons, List.flatMap_nil, List.length_cons, List.length_nil, List.cons_append, List.nil_append, List.append_nil, List.take_succ_cons, List.take_nil, List.not_mem_nil, ↓reduceIte, Bool.false_eq_true, and_true, not_false_eq_true, decide_false, Nat.le_refl, Nat.zero_add, Nat.reduceEqDiff, Nat.reduceAdd, Nat.reduceLT, Nat.reduceLeDiff, Int.reduceLT, roundF_eq, kt_nil]
  have hw : IntKind.i64.wrap 0 = 0 := rfl
  unfold fn183 leafN leafE
  simp -implicitDefEqProofs only [code_ops, code_draw, code_seq, code_ret, ops_cons, ops_nil, aOp, opd, upd_at, upd_none, initTm_at, kt_cons, stepVal, stepHeap, aBin, aLen, aInt, isShift, aWanted, aLoad1, aStore, readAt, aField, leaf, acells_agg, acells_list, cellsSet, endFn, aResults, aResult, tupled, code_loopF, gcE, gc_mk, isTrim_cons, gcIds_mk, newIds_nil, newIds_cons, gcMap_at, posOf, ren, renC, renO_box, renO_tail, idsV, idsC, idsO_box, draw_eq, opsH_nil, opsH_cons, isLoud, aAppend, wipe_agg, wipeC_list, wipeC_int, isData_list_none, isData_list_full, isData_list_tail, isData_int, isData_agg, isData_ptr, isDataL_nil, isDataL_cons, Option.map_some, Option.getD_some, List.map_cons, List.map_nil, List.flatMap_cons, List.flatMap_nil, List.length_cons, List.length_nil, List.cons_append, List.nil_append, List.append_nil, List.getElem?_cons_zero, List.getElem?_cons_succ, List.set_cons_zero, List.set_cons_succ, List.take_succ_cons, List.take_zero, List.drop_succ_cons, List.drop_zero, List.take_nil, List.drop_nil, List.all_cons, List.all_nil, List.not_mem_nil, ↓reduceIte, Bool.and_true, Bool.false_eq_true, and_true, not_false_eq_true, decide_true, decide_false, and_self, Nat.le_refl, reduceCtorEq, Nat.add_zero, Nat.zero_add, Nat.reduceEqDiff, Nat.reduceAdd, Nat.reduceLT, Nat.reduceLeDiff, List.cons_ne_nil, maxLen_eq, checksP_nil, drawTo_if, kt_nil, Int.cast_ofNat_Int, code_frame_seq, encExpr_eq, hloop, hw, Int.natCast_zero, Int.natCast_one, Int.reduceSub]
theorem into_lam (n : Int) : call L 183 [lamN n, .ptr (some (0, 0))] [.box [.list [] (some none)]] = some (.val (.int .i64 1), [.box [.list ((exE n).map encExpr) (some (some 1))], .tail 2 5]) := by
  have hL := hC.plain
  have hp := hL.pure
  have hs : L.summ 183 = none := hL.summ 183 (by rw [hC.f183]; exact fun hx => by cases hx)
  refine call_of hs hC.f183 ?_
  have hleaf := into_leaf hC n
  have hd : isData (leafN n) = true := rfl
  have hac : acells (leafN n) = [leafN n] := rfl
  have hw1 : IntKind.i64.wrap 1 = 1 := rfl
  have hloop : loopF L.pure (call L) 2 [1, 5, 16, 17, 18] [1, 5] 0 fn183_l0 ⟨kt [1, 5, 16, 17, 18] [.ptr (some (0, 0)), .ptr (some (1, 0)), .list [leafN n] none, .int .i64 1, .int .i64 0], [.box [.list [] (some none)], .box [.int .i64 2, .int .i64 0, .list [.int .i64 n] none, .list [] (some none), .list [] none]]⟩ =
      some (.normal, ⟨kt [1, 5] [.ptr (some (0, 0)), .ptr (some (1, 0))], [.box [.list [encExpr (leafE n)] (some (some 2))], .box [.int .i64 2, .int .i64 0, .list [.int .i64 n] none, .list [.int .i64 0] (some (some 3)), .list [] none], .tail 1 5, .tail 1 1]⟩) := by
    rw [loopF_next (s1 := ⟨kt [1, 5, 16, 17, 18] [.ptr (some (0, 0)), .ptr (some (1, 0)), .list [leafN n] none, .int .i64 1, .int .i64 1], [.box [.list [encExpr (leafE n)] (some (some 2))], .box [.int .i64 2, .int .i64 0, .list [.int .i64 n] none, .list [.int .i64 0] (some (some 3)), .list [] none], .tail 1 5, .tail 1 1]⟩)]
    · refine loopF_exit ?_
      unfold fn183_l0 leafE
      simp -implicitDefEqProofs only [code_ops, code_seq, code_cond, code_exit, ops_cons, ops_nil, aOp, opd, upd_at, kt_cons, stepVal, aBin, aInt, isShift, gcE, gc_mk, isTrim_cons, gcIds_mk, newIds_nil, newIds_cons, gcMap_at, posOf, ren, renC, renO_box, renO_tail, idsV, idsC, idsO_box, isData_list_none, isData_list_tail, isData_int, isData_agg, isData_ptr, isDataL_nil, isDataL_cons, Option.getD_some, List.map_cons, List.map_nil, List.flatMap_cons, List.flatMap_nil, List.length_cons, List.length_nil, List.cons_append, List.nil_append, List.append_nil, List.getElem?_cons_zero, List.getElem?_cons_succ, List.take_succ_cons, List.take_zero, List.mem_cons, List.not_mem_nil, ↓reduceIte, Bool.and_true, Bool.false_eq_true, and_true, or_false, not_false_eq_true, decide_false, and_self, Nat.le_refl, Nat.zero_add, Nat.reduceEqDiff, Nat.reduceAdd, Nat.reduceLT, Nat.reduceLeDiff, Int.reduceLT, roundF_eq, kt_nil, encExpr_eq, hd]
    · unfold leafN leafE at *
      unfold fn183_l0
      simp -implicitDefEqProofs only [code_skip, code_ops, code_draw, code_seq, code_cond, code_block, ops_cons, ops_nil, aOp, opd, upd_at, upd_none, kt_cons, stepVal, stepHeap, aBin, aInt, aIndexList, isShift, aWanted, aLoad1, aStore, aField, acells_vptr, cellsSet, gcE, draw_eq, opsH_nil, opsH_cons, isLoud, aAppend, List.map_cons, List.map_nil, List.length_cons, List.length_nil, List.cons_append, List.nil_append, List.append_nil, List.append_assoc, List.getElem?_cons_zero, List.getElem?_cons_succ, List.all_cons, List.all_nil, ↓reduceIte, Bool.and_true, Bool.false_eq_true, decide_true, Nat.zero_add, Nat.reduceEqDiff, Nat.reduceAdd, Int.reduceToNat, Int.reduceLT, roundF_eq, maxLen_eq, kt_nil, encExpr_eq, Nat.mul_one, Int.le_refl, List.map_nil] at hleaf ⊢
      simp -implicitDefEqProofs only [ops_cons, ops_nil, aOp, opd, upd_at, kt_cons, stepVal, aBin, aInt, isShift, aWanted, aLoad1, leaf, acells_int, acells_list, gc_mk, isTrim_cons, gcIds_mk, newIds_nil, newIds_cons, gcMap_at, posOf, ren, renC, renO_box, renO_tail, idsV, idsC, idsO_box, wipe_int, wipe_ptr, wipe_vptr, isData_list_none, isData_list_full, isData_list_tail, isData_int, isData_agg, isData_vptr, isData_ptr, isDataL_nil, isDataL_cons, Option.map_some, Option.getD_some, List.map_cons, List.map_nil, List.flatMap_cons, List.flatMap_nil, List.length_cons, List.length_nil, List.cons_append, List.nil_append, List.append_nil, List.getElem?_cons_zero, List.getElem?_cons_succ, List.set_cons_zero, List.set_cons_succ, List.take_succ_cons, List.take_zero, List.drop_succ_cons, List.drop_zero, List.all_cons, List.all_nil, List.mem_cons, List.not_mem_nil, ↓reduceIte, Bool.and_true, Bool.and_false, Bool.false_eq_true, and_true, or_false, not_false_eq_true, decide_true, decide_false, and_self, Nat.le_refl, reduceCtorEq, Nat.add_zero, Nat.zero_add, Nat.reduceEqDiff, Nat.reduceAdd, Nat.reduceSub, Nat.reduceLT, Nat.reduceLeDiff, List.cons_ne_nil, checksP_cons, checksP_nil, checkP_eq, drawTo_if, forall_const, forall_eq_or_imp, forall_eq, Int.reduceAdd, kt_nil, rCall_eq, rootsOf_eq, grow_eq, subHeap_eq, newOf_val, backRen_at, putBack_eq, pb_nil, pb_cons, backRes_val, hleaf, hw1, doCall_p L hp, hp]
  unfold fn183 lamN exE leafE lamE at *
  generalize leafN n = A at *
  simp only [List.map_cons, List.map_nil, encI_eq, encAlt_eq, encExpr_eq, encTree_eq, data_Ints, data_Alts, data_Exprs, data_Tree, data_Trees, all_Ints, all_Alts, all_Exprs, all_Trees, outOf_val, ownAt_zero, ownAt_succ, tailAt_zero, tailAt_succ, Option.isNone_some, Option.isNone_none, acells_vec, wipe_vec, wipeC_vec, isData_vec, idsO_vec, renO_vec, ids_Ints, ren_Ints, Nat.mul_one, List.length_set, code_mdraw, Int.le_refl, acells_Tree, leaf_Tree, known_Tree, wipe_Tree, wipeC_Tree] at hloop ⊢
  simp -implicitDefEqProofs only [code_ops, code_draw, code_seq, code_ret, ops_cons, ops_nil, aOp, opd, upd_at, upd_none, initTm_at, kt_cons, stepVal, stepHeap, aBin, aLen, aInt, isShift, aWanted, aLoad1, aStore, readAt, aField, leaf, acells_agg, acells_list, cellsSet, endFn, aResults, aResult, tupled, code_loopF, gcE, gc_mk, isTrim_cons, gcIds_mk, newIds_nil, newIds_cons, gcMap_at, posOf, ren, renC, renO_box, renO_tail, idsV, idsC, idsO_box, draw_eq, opsH_nil, opsH_cons, isLoud, aAppend, wipe_agg, wipeC_list, wipeC_int, isData_list_none, isData_list_full, isData_list_tail, isData_int, isData_agg, isData_ptr, isDataL_nil, isDataL_cons, Option.map_some, Option.getD_some, List.map_cons, List.map_nil, List.flatMap_cons, List.flatMap_nil, List.length_cons, List.length_nil, List.cons_append, List.nil_append, List.append_nil, List.getElem?_cons_zero, List.getElem?_cons_succ, List.set_cons_zero, List.set_cons_succ, List.take_succ_cons, List.take_zero, List.drop_succ_cons, List.drop_zero, List.take_nil, List.drop_nil, List.all_cons, List.all_nil, List.not_mem_nil, ↓reduceIte, Bool.and_true, Bool.false_eq_true, and_true, not_false_eq_true, decide_true, decide_false, and_self, Nat.le_refl, reduceCtorEq, Nat.add_zero, Nat.zero_add, Nat.reduceEqDiff, Nat.reduceAdd, Nat.reduceLT, Nat.reduceLeDiff, List.cons_ne_nil, maxLen_eq, checksP_nil, drawTo_if, kt_nil, Int.cast_ofNat_Int, code_frame_seq, hloop, hd, hw1, Int.natCast_zero, Int.natCast_one, Int.reduceSub]
theorem rlist_ok (n : Int) (h : Heap) : pcall L 154 [lamN n] h = some (.val (.list ((exE n).map encExpr) none), h) := by
  have hL := hC.plain
  have hp := hL.pure
  have hl := into_lam hC n
  have hd : isData (lamN n) = true := rfl
  have hdE := data_Exprs (exE n)
  refine pcall_fn hL hC.f154 (by rw [isData_list_none]; exact data_Exprs _) ?_ h
  generalize (exE n).map encExpr = E at *
  have hwl : wipe (lamN n) = lamN n := rfl
  unfold fn154
  generalize lamN n = A at *
  simp -implicitDefEqProofs only [code_ops, code_seq, code_ret, ops_cons, ops_nil, aOp, opd, upd_at, initTm_at, stepVal, aLoad1, endFn, aResults, aResult, tupled, newIds_nil, newIds_cons, posOf, ren, renC, renO_box, renO_tail, idsV, idsC, idsO_box, wipeR_list, wipe_ptr, isData_list_full, isData_list_tail, isData_int, isData_ptr, isDataL_nil, isDataL_cons, Option.map_some, Option.getD_some, List.map_cons, List.map_nil, List.flatMap_cons, List.flatMap_nil, List.length_cons, List.length_nil, List.cons_append, List.nil_append, List.append_nil, List.getElem?_cons_zero, List.getElem?_cons_succ, List.take_succ_cons, List.take_zero, List.all_cons, List.all_nil, List.not_mem_nil, ↓reduceIte, Bool.and_true, Bool.and_false, Bool.false_eq_true, not_false_eq_true, decide_true, and_self, Nat.le_refl, reduceCtorEq, Nat.add_zero, Nat.zero_add, Nat.reduceEqDiff, Nat.reduceLT, rCall_eq, rootsOf_eq, grow_eq, subHeap_eq, newOf_val, backRen_at, putBack_eq, pb_nil, pb_cons, backRes_val, outOf_val, hl, hd, hdE, hwl, doCall_p L hp, hp]
theorem coreFact_ok (h : Heap) : pcall L 131 [] h = some (.val (.bool true), h) := by
  have hL := hC.plain
  have hp := hL.pure
  have hv1 := v_ok hC 1
  have hv2 := v_ok hC 2
  have hb1 := b_ok hC 1
  have hb2 := b_ok hC 2
  have hr1 := rlist_ok hC 1
  have hr2 := rlist_ok hC 2
  have hs := same133_ok hC (exE 1) (exE 2) (by decide) (exE_ok 1 (by decide)) (by decide) (exE_ok 2 (by decide))
  rw [fact_same] at hs
  have d1 : isData (lamN 1) = true := rfl
  have d2 : isData (lamN 2) = true := rfl
  have d3 : isData (leafN 1) = true := rfl
  have d4 : isData (leafN 2) = true := rfl
  have w1 : wipe (lamN 1) = lamN 1 := rfl
  have w2 : wipe (lamN 2) = lamN 2 := rfl
  have w3 : wipe (leafN 1) = leafN 1 := rfl
  have w4 : wipe (leafN 2) = leafN 2 := rfl
  have a3 : acells (leafN 1) = [leafN 1] := rfl
  have a4 : acells (leafN 2) = [leafN 2] := rfl
  have l3 : leaf (leafN 1) = true := rfl
  have l4 : leaf (leafN 2) = true := rfl
  have c1 : isDataL ((exE 1).map encExpr) = true := data_Exprs _
  have c2 : isDataL ((exE 2).map encExpr) = true := data_Exprs _
  refine pcall_fn hL hC.f131 rfl ?_ h
  generalize (exE 1).map encExpr = E1 at *
  generalize (exE 2).map encExpr = E2 at *
  obtain ⟨z1, e1⟩ : ∃ cs, lamN 1 = .vptr cs 0 := ⟨_, rfl⟩
  obtain ⟨z2, e2⟩ : ∃ cs, lamN 2 = .vptr cs 0 := ⟨_, rfl⟩
  obtain ⟨z3, e3⟩ : ∃ cs, leafN 1 = .vptr cs 0 := ⟨_, rfl⟩
  obtain ⟨z4, e4⟩ : ∃ cs, leafN 2 = .vptr cs 0 := ⟨_, rfl⟩
  rw [e1] at d1 hb1 hr1
  rw [e2] at d2 hb2 hr2
  rw [e3] at d3 hv1 hb1
  rw [e4] at d4 hv2 hb2
  unfold fn131
  rw [isData_vptr] at d1 d2 d3 d4
  simp -implicitDefEqProofs only [code_ops, code_seq, code_ret, ops_cons, ops_nil, aOp, opd, upd_at, initTm_at, leaf, acells_int, acells_vptr, endFn, aResults, aResult, tupled, wipe_list, wipe_int, wipeR_bool, wipe_vptr, isData_list_none, isData_int, isData_vptr, isDataL_nil, isDataL_cons, Option.getD_none, List.map_cons, List.map_nil, List.length_cons, List.length_nil, List.nil_append, List.append_nil, List.getElem?_nil, List.all_cons, List.all_nil, ↓reduceIte, Bool.and_true, decide_true, and_self, Nat.zero_add, Nat.reduceEqDiff, onlyVal, outOf_val, hv1, hv2, hb1, hb2, hr1, hr2, hs, d1, d2, d3, d4, c1, c2, doCall_p L hp, hp]
end
end Go.Abs
