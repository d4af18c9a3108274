/-
  Apply on the abstract machine, and the laws FunctorNeeds and FunctorTwice. Conditions: none.
-/
import Derived.Test.YtlielgleabghlaaDoorA

set_option linter.unusedVariables false
set_option linter.unusedSimpArgs false
set_option maxRecDepth 100000
set_option maxHeartbeats 8000000
namespace Go.Abs

def frontOf (f : SigFunctor) (name ns : ByteArray) : ByteArray := if f.fresh = true then f.name ++ ⟨#[35]⟩ ++ ns else f.name ++ ⟨#[40]⟩ ++ name ++ ⟨#[41]⟩
def appMap (ca : ByteArray → ByteArray → Bool) (f : SigFunctor) (arg : SigSpec) (name ns : ByteArray) : List SigMap := (matchR ca arg f.needs name).1 ++ f.yields.datas.map (mapOf (frontOf f name ns))
def appErr (ca : ByteArray → ByteArray → Bool) (f : SigFunctor) (arg : SigSpec) (name : ByteArray) : Int := if checkFun ca f ≠ 0 then checkFun ca f else (matchR ca arg f.needs name).2
def appOut (l : List SigMap) (y : SigSpec) : SigSpec := ⟨y.datas.map (dataMap l), y.vals.map (valMap l)⟩
def applyR (ca : ByteArray → ByteArray → Bool) (f : SigFunctor) (arg : SigSpec) (name ns : ByteArray) : SigSpec := if appErr ca f arg name ≠ 0 then ⟨[], []⟩ else appOut (appMap ca f arg name ns) f.yields

theorem cut_size {ca : ByteArray → ByteArray → Bool} {s : ByteArray} (h : cutB ca s = false) : s.size ≤ 40 := by
  unfold cutB at h
  simp only [Bool.or_eq_false_iff, decide_eq_false_iff_not] at h
  omega
theorem checkFun_zero {ca : ByteArray → ByteArray → Bool} {f : SigFunctor} (h : checkFun ca f = 0) : f.name.size ≤ 40 ∧ Abs.check ca f.needs = 0 ∧ Abs.check ca f.yields = 0 := by
  unfold checkFun at h
  split at h
  · cases h
  · rename_i h1
    split at h
    · rename_i h2
      exact absurd h h2
    · rename_i h2
      split at h
      · rename_i h3
        exact absurd h h3
      · rename_i h3
        refine ⟨cut_size (by simpa using h1), ?_, ?_⟩ <;> omega
theorem matchR_types {ca : ByteArray → ByteArray → Bool} {I S : SigSpec} {name : ByteArray} (hS : S.datas.length < 2 ^ 30) (hSd : Abs.check ca S = 0 → SmallData S) : (matchR ca I S name).1.length ≤ S.datas.length ∧ ∀ m ∈ (matchR ca I S name).1, TyOk m.type := by
  unfold matchR
  split
  · exact ⟨by simp, fun m hm => by cases hm⟩
  split
  · exact ⟨by simp, fun m hm => by cases hm⟩
  rename_i hc
  have hSd := hSd (by omega)
  have hlt : (typesR I S name).1.length ≤ S.datas.length ∧ ∀ m ∈ (typesR I S name).1, TyOk m.type := by
    unfold typesR
    split
    · refine ⟨by simp, fun m hm => ?_⟩
      obtain ⟨d, hd, rfl⟩ := List.mem_map.1 hm
      exact mapOf_ok name d (hSd d hd)
    · exact ⟨by simp, fun m hm => by cases hm⟩
  split
  · exact ⟨by simp, fun m hm => by cases hm⟩
  split
  · exact ⟨by simp, fun m hm => by cases hm⟩
  split
  · exact ⟨by simp, fun m hm => by cases hm⟩
  · exact hlt

theorem checkLens {ca : ByteArray → ByteArray → Bool} {s : SigSpec} (h : Abs.check ca s = 0) : s.datas.length ≤ 40 ∧ s.vals.length ≤ 40 := by
  unfold Abs.check at h
  split at h
  · cases h
  · split at h
    · cases h
    · omega

section
variable {L : Lib} {ca : ByteArray → ByteArray → Bool} (X : Sig L ca)
include X
theorem Sig.apply_ok (f26 : L.fns 26 = some fn26) (f : SigFunctor) (arg : SigSpec) (hn : FitSpec f.needs) (hy : FitSpec f.yields) (ha : FitSpec arg) (name ns : ByteArray) (hnm : name.size ≤ 2 ^ 20) (hns : ns.size ≤ 2 ^ 20) (number : Int) (n0 : 0 ≤ number) (n1 : number ≤ 1048576)
    (hit : ∀ h : Heap, pcall L 48 [.int .i64 number] h = some (.val (.str ns), h)) (h : Heap) :
    pcall L 26 [.agg (fCells f), .agg [.list (arg.datas.map encData) none, .list (arg.vals.map encVal) none], .str name, .int .i64 number] h =
      some (.val (.tuple [.agg [.list ((applyR ca f arg name ns).datas.map encData) none, .list ((applyR ca f arg name ns).vals.map encVal) none], .int .i64 (appErr ca f arg name)]), h) := by
  have hp := X.plain.pure
  have h1 := X.checkFun_ok f hn hy
  have h2 := X.match_anyK arg f.needs ha hn name (by omega)
  refine pcall_fn X.plain f26 (by simp -implicitDefEqProofs only [isData_list_none, isData_int, isData_agg, isData_tuple, isDataL_nil, isDataL_cons, Bool.and_true, data_Datas, data_Vals]) ?_ h
  by_cases e1 : checkFun ca f = 0
  case neg =>
    have e1' : (checkFun ca f == 0) = false := by simpa using e1
    unfold applyR appErr
    rw [if_pos e1]
    unfold fCells at h1 ⊢
    generalize checkFun ca f = e at *
    unfold fn26
    simp -implicitDefEqProofs only [code_ops, code_seq, code_cond, code_ret, ops_cons, ops_nil, aOp, opd, upd_at, upd_none, initTm_at, stepVal, stepHeap, aBin, aInt, isShift, aStore, readAt, fillA, leaf, acells_agg, cellsSet, endFn, aResults, aResult, tupled, wipe_agg, wipe_int, wipeR_tuple, wipeC_list, wipeC_bool, wipeC_str, isData_list_none, isData_bool, isData_str, isData_agg, isDataL_nil, isDataL_cons, Option.map_some, Option.getD_some, List.map_cons, List.map_nil, List.length_cons, List.length_nil, List.cons_append, List.nil_append, List.append_nil, List.getElem?_cons_zero, List.getElem?_cons_succ, List.set_cons_zero, List.set_cons_succ, List.take_succ_cons, List.take_zero, List.drop_succ_cons, List.drop_zero, List.take_nil, List.drop_nil, List.all_cons, List.all_nil, ↓reduceIte, Bool.and_true, Bool.not_false, Bool.false_eq_true, not_false_eq_true, and_self, Nat.le_refl, Nat.zero_add, Nat.reduceEqDiff, Nat.reduceAdd, ne_eq, onlyVal, data_Datas, data_Vals, outOf_val, h1, e1, e1', doCall_p L hp, hp, bne]
  obtain ⟨c1, c2, c3⟩ := checkFun_zero e1
  have hsy := small_of_check c3
  have hmt := matchR_types (ca := ca) (I := arg) (name := name) hn.datas (fun _ => small_of_check c2)
  have hlen := checkLens c2
  have hleny := checkLens c3
  have eE : appErr ca f arg name = (matchR ca arg f.needs name).2 := by
    unfold appErr
    rw [if_neg (by simpa using e1)]
  unfold applyR appMap
  rw [eE]
  rw [e1] at h1
  generalize matchR ca arg f.needs name = r at *
  obtain ⟨m, e⟩ := r
  dsimp only at h2 hmt ⊢
  by_cases e2 : e = 0
  case neg =>
    have e2' : (e == 0) = false := by simpa using e2
    rw [if_pos e2]
    unfold fCells at h1 ⊢
    unfold fn26
    rcases own_cases 3 5 m.length with ⟨z1, z2⟩ | ⟨z1, z2⟩ <;>
    simp -implicitDefEqProofs only [code_skip, code_ops, code_kops, opsK_nil, opsK_cons, opK_pcall, opK_move, opK_loadN, opK_field, opK_extract, code_seq, code_cond, code_ret, ops_cons, ops_nil, aOp, opd, upd_at, upd_none, initTm_at, stepVal, stepHeap, aBin, aInt, isShift, aStore, readAt, aField, fillA, leaf, acells_agg, cellsSet, endFn, aResults, aResult, tupled, wipe_agg, wipe_int, wipeR_tuple, wipeC_list, wipeC_bool, wipeC_str, isData_list_none, isData_bool, isData_str, isData_agg, isDataL_nil, isDataL_cons, beq_self_eq_true, Option.map_some, Option.getD_some, List.map_cons, List.map_nil, List.length_cons, List.length_nil, List.cons_append, List.nil_append, List.append_nil, List.getElem?_cons_zero, List.getElem?_cons_succ, List.set_cons_zero, List.set_cons_succ, List.take_succ_cons, List.take_zero, List.drop_succ_cons, List.drop_zero, List.take_nil, List.drop_nil, List.all_cons, List.all_nil, ↓reduceIte, Bool.and_true, Bool.not_true, Bool.not_false, Bool.false_eq_true, and_self, Nat.le_refl, Nat.zero_add, Nat.reduceEqDiff, Nat.reduceAdd, Nat.reduceLeDiff, onlyVal, data_Datas, data_Vals, outOf_val, h1, h2, e2, e2', z1, z2, doCall_p L hp, hp, bne]
  subst e2
  rw [if_neg (by simp)]
  have hfr : (frontOf f name ns).size ≤ 2 ^ 40 := by
    have q1 : (⟨#[35]⟩ : ByteArray).size = 1 := rfl
    have q2 : (⟨#[40]⟩ : ByteArray).size = 1 := rfl
    have q3 : (⟨#[41]⟩ : ByteArray).size = 1 := rfl
    unfold frontOf
    split <;> simp only [ByteArray.size_append, q1, q2, q3] <;> omega
  have s1 : f.name.size + (⟨#[40]⟩ : ByteArray).size ≤ 2 ^ 60 := by
    have q2 : (⟨#[40]⟩ : ByteArray).size = 1 := rfl
    omega
  have s2 : (f.name ++ ⟨#[40]⟩).size + name.size ≤ 2 ^ 60 := by
    have q2 : (⟨#[40]⟩ : ByteArray).size = 1 := rfl
    rw [ByteArray.size_append]
    omega
  have s3 : (f.name ++ ⟨#[40]⟩ ++ name).size + (⟨#[41]⟩ : ByteArray).size ≤ 2 ^ 60 := by
    have q2 : (⟨#[40]⟩ : ByteArray).size = 1 := rfl
    have q3 : (⟨#[41]⟩ : ByteArray).size = 1 := rfl
    rw [ByteArray.size_append, ByteArray.size_append]
    omega
  have s4 : f.name.size + (⟨#[35]⟩ : ByteArray).size ≤ 2 ^ 60 := by
    have q2 : (⟨#[35]⟩ : ByteArray).size = 1 := rfl
    omega
  have s5 : (f.name ++ ⟨#[35]⟩).size + ns.size ≤ 2 ^ 60 := by
    have q2 : (⟨#[35]⟩ : ByteArray).size = 1 := rfl
    rw [ByteArray.size_append]
    omega
  have n0' : ¬ number < 0 := by omega
  have n1' : ¬ number > 1048576 := by omega
  have h3 := outer_ok X.plain X.f53 X.f31 f.yields (frontOf f name ns) hfr hy.datas (fun d hd => ⟨(hy.data d hd).2.1, hsy d hd⟩)
  have hol : (f.yields.datas.map (mapOf (frontOf f name ns))).length = f.yields.datas.length := List.length_map _
  have hoo : ∀ x ∈ f.yields.datas.map (mapOf (frontOf f name ns)), TyOk x.type := fun x hx => by
    obtain ⟨d, hd, rfl⟩ := List.mem_map.1 hx
    exact mapOf_ok _ d (hsy d hd)
  generalize f.yields.datas.map (mapOf (frontOf f name ns)) = o at *
  have hml : (m ++ o).length < 2 ^ 30 := by rw [List.length_append]; omega
  have hmo : ∀ x ∈ m ++ o, TyOk x.type := fun x hx => (List.mem_append.1 hx).elim (hmt.2 x) (hoo x)
  have hle : m.length + o.length ≤ 1073741824 := by omega
  have q0 : OldO (.box (fCells f)) := old_box (by simp only [fCells, isDataL, isData, data_Datas, data_Vals, Bool.and_self])
  have q1 : OldO (.box [.list (arg.datas.map encData) none, .list (arg.vals.map encVal) none]) := old_box (by simp only [isDataL, isData, data_Datas, data_Vals, Bool.and_self])
  have q2 : OldO (.box [.list [] (some none), .list [] (some none)]) := old_box rfl
  have key : ∀ (P : Heap) (ow : Option (Option Nat)), AP P ow → loopF L.pure (call L) (P.length + 1) [4, 8, 11, 14, 73, 74, 75] [4, 8, 11, 14] 0 fn26_l2 (ap2 (m ++ o) P ow f.yields.datas [] 0) = _ ∧
      loopF L.pure (call L) (P.length + 1 + (tailAt 3 f.yields.datas.length).length) [8, 11, 14, 126, 127, 128] [8, 14] 6 fn26_l3 (ap3 (m ++ o) P (tailAt 3 f.yields.datas.length) ow (ownAt (P.length + 1) f.yields.datas.length) ((f.yields.datas.map (dataMap (m ++ o))).map encData) f.yields.vals [] 0) = _ := fun P ow hP =>
    ⟨X.ap_l2 (m ++ o) hml hmo hP f.yields.datas hy.datas hy.data, X.ap_l3 (m ++ o) hml hmo hP (own_T _ _ _) _ (data_Datas _) f.yields.vals hy.vals hy.val⟩
  have kA := key [.box (fCells f), .box [.list (arg.datas.map encData) none, .list (arg.vals.map encVal) none], .box [.list [] (some none), .list [] (some none)]] (some none) ⟨_, _, _, .gone, q0, q1, q2, ⟨fun _ => rfl, rfl⟩, .inl ⟨rfl, rfl⟩⟩
  have kB := fun n => key [.box (fCells f), .box [.list (arg.datas.map encData) none, .list (arg.vals.map encVal) none], .box [.list [] (some none), .list [] (some none)], .tail n 5] (some (some 3)) ⟨_, _, _, _, q0, q1, q2, old_tail _ _, .inr ⟨rfl, rfl⟩⟩
  unfold ap2 ap3 at kA kB
  unfold appOut
  unfold fCells at h1 kA kB ⊢
  simp only [List.length_cons, List.length_nil, Nat.zero_add, Nat.add_zero, Nat.reduceAdd, Int.natCast_zero, ownAt_zero, tailAt_zero, List.map_nil, List.cons_append, List.nil_append, List.append_nil, List.map_append] at kA kB
  have cm : m = [] ∨ (ownAt 3 m.length = some (some 3) ∧ tailAt 5 m.length = [.tail m.length 5]) := by
    cases m with
    | nil => exact .inl rfl
    | cons a m => exact .inr ⟨rfl, rfl⟩
  have co : o = [] ∨ (o.map encMap = []) = False := by
    cases o with
    | nil => exact .inl rfl
    | cons a o => exact .inr (by simp)
  have cd4 := own_cases 4 3 f.yields.datas.length
  have cd5 := own_cases 5 3 f.yields.datas.length
  have cv4 := own_cases 4 7 f.yields.vals.length
  have cv5 := own_cases 5 7 f.yields.vals.length
  have cv6 := own_cases 6 7 f.yields.vals.length
  unfold frontOf at h3
  unfold fn26
  cases hfre : f.fresh <;> simp only [hfre, Bool.false_eq_true, if_false, if_true] at h1 h3 kA kB ⊢
  · rcases cm with rfl | ⟨m1, m2⟩ <;> rcases co with rfl | co
    · simp only [List.nil_append, List.append_nil, List.map_nil, List.length_nil, Nat.zero_add, Nat.add_zero] at kA h2 ⊢
      rcases cd4 with ⟨d1, d2⟩ | ⟨d1, d2⟩ <;> rcases cv4 with ⟨v1, v2⟩ | ⟨v1, v2⟩ <;> rcases cv5 with ⟨v3, v4⟩ | ⟨v3, v4⟩ <;>
        simp only [d1, d2, v1, v2, v3, v4, List.length_cons, List.length_nil, Nat.zero_add, Nat.add_zero, Nat.reduceAdd, List.cons_append, List.nil_append, reduceCtorEq, List.cons_ne_nil] at kA v4 <;>
        simp -implicitDefEqProofs only [code_skip, code_ops, code_kops, opsK_nil, opsK_cons, opK_pcall, opK_move, opK_loadN, opK_field, opK_extract, code_seq, code_cond, code_ret, ops_cons, ops_cons_g, ops_nil, aOp, opd, upd_at, upd_none, initTm_at, kt_cons, stepVal, stepHeap, aBin, aStr, aLen, aInt, isShift, aWanted, aLoad1, aStore, readAt, aField, fillA, leaf, acells_agg, cellsSet, endFn, aResults, aResult, tupled, code_loopF, gc_mk, gcIds_mk, newIds_nil, newIds_cons, gcMap_at, posOf, ren, renC, renO_box, renO_tail, idsV, idsC, idsO_box, idsO_tail, aAppend, wipe_agg, wipe_int, wipe_str, wipeR_tuple, wipeC_list, wipeC_bool, wipeC_str, isData_list_none, isData_list_full, isData_list_tail, isData_bool, isData_int, isData_str, isData_agg, isData_ptr, isDataL_nil, isDataL_cons, beq_self_eq_true, Option.map_some, Option.getD_some, List.map_cons, List.map_nil, List.flatMap_cons, List.flatMap_nil, List.length_cons, List.length_nil, List.length_map, List.cons_append, List.nil_append, List.append_nil, List.getElem?_cons_zero, List.getElem?_cons_succ, List.set_cons_zero, List.set_cons_succ, List.take_succ_cons, List.take_zero, List.drop_succ_cons, List.drop_zero, List.take_nil, List.drop_nil, List.all_cons, List.all_nil, List.not_mem_nil, ↓reduceIte, Bool.and_true, Bool.not_true, Bool.false_eq_true, and_true, not_false_eq_true, decide_false, and_self, Nat.le_refl, Nat.add_zero, Nat.zero_add, Nat.reduceEqDiff, Nat.reduceAdd, Nat.reduceLT, Nat.reduceLeDiff, kt_nil, gt_iff_lt, onlyVal, data_Datas, data_Vals, outOf_val, ownAt_zero, tailAt_zero, h1, h2, h3, kA, s1, s2, s3, hfre, n0', n1', doCall_p L hp, hp, bne]
    · have kB := kB o.length
      simp only [List.nil_append, List.map_nil, List.length_nil, Nat.zero_add] at kB h2 hle ⊢
      rcases cd5 with ⟨d1, d2⟩ | ⟨d1, d2⟩ <;> rcases cv5 with ⟨v1, v2⟩ | ⟨v1, v2⟩ <;> rcases cv6 with ⟨v3, v4⟩ | ⟨v3, v4⟩ <;>
        simp only [d1, d2, v1, v2, v3, v4, List.length_cons, List.length_nil, Nat.zero_add, Nat.add_zero, Nat.reduceAdd, List.cons_append, List.nil_append, reduceCtorEq, List.cons_ne_nil] at kB v4 <;>
        simp -implicitDefEqProofs only [code_skip, code_ops, code_kops, opsK_nil, opsK_cons, opK_pcall, opK_move, opK_loadN, opK_field, opK_extract, code_seq, code_cond, code_ret, ops_cons, ops_cons_g, ops_nil, aOp, opd, upd_at, upd_none, initTm_at, kt_cons, stepVal, stepHeap, aBin, aStr, aLen, aInt, isShift, aWanted, aLoad1, aStore, readAt, aField, fillA, leaf, acells_agg, cellsSet, endFn, aResults, aResult, tupled, code_loopF, gc_mk, gcIds_mk, newIds_nil, newIds_cons, gcMap_at, posOf, ren, renC, renO_box, renO_tail, idsV, idsC, idsO_box, idsO_tail, aAppend, wipe_agg, wipe_int, wipe_str, wipeR_tuple, wipeC_list, wipeC_bool, wipeC_str, isData_list_none, isData_list_full, isData_list_tail, isData_bool, isData_int, isData_str, isData_agg, isData_ptr, isDataL_nil, isDataL_cons, beq_self_eq_true, Option.map_some, Option.getD_some, List.map_cons, List.map_nil, List.flatMap_cons, List.flatMap_nil, List.length_cons, List.length_nil, List.length_map, List.cons_append, List.nil_append, List.append_nil, List.getElem?_cons_zero, List.getElem?_cons_succ, List.set_cons_zero, List.set_cons_succ, List.take_succ_cons, List.take_zero, List.drop_succ_cons, List.drop_zero, List.take_nil, List.drop_nil, List.all_cons, List.all_nil, List.not_mem_nil, ↓reduceIte, Bool.and_true, Bool.not_true, Bool.false_eq_true, and_true, not_false_eq_true, decide_false, and_self, Nat.le_refl, Nat.add_zero, Nat.zero_add, Nat.reduceEqDiff, Nat.reduceAdd, Nat.reduceLT, Nat.reduceLeDiff, maxLen_eq, kt_nil, gt_iff_lt, onlyVal, data_Datas, data_Vals, data_Maps, all_Maps, outOf_val, ownAt_zero, tailAt_zero, h1, h2, h3, kB, co, hle, s1, s2, s3, hfre, n0', n1', doCall_p L hp, hp, bne]
    · have kB := kB m.length
      simp only [List.append_nil, List.map_nil, List.length_nil, Nat.add_zero] at kB h2 hle ⊢
      rcases cd5 with ⟨d1, d2⟩ | ⟨d1, d2⟩ <;> rcases cv5 with ⟨v1, v2⟩ | ⟨v1, v2⟩ <;> rcases cv6 with ⟨v3, v4⟩ | ⟨v3, v4⟩ <;>
        simp only [d1, d2, v1, v2, v3, v4, List.length_cons, List.length_nil, Nat.zero_add, Nat.add_zero, Nat.reduceAdd, List.cons_append, List.nil_append, reduceCtorEq, List.cons_ne_nil] at kB v4 <;>
        simp -implicitDefEqProofs only [code_skip, code_ops, code_kops, opsK_nil, opsK_cons, opK_pcall, opK_move, opK_loadN, opK_field, opK_extract, code_seq, code_cond, code_ret, ops_cons, ops_cons_g, ops_nil, aOp, opd, upd_at, upd_none, initTm_at, kt_cons, stepVal, stepHeap, aBin, aStr, aLen, aInt, isShift, aWanted, aLoad1, aStore, readAt, aField, fillA, leaf, acells_agg, cellsSet, endFn, aResults, aResult, tupled, code_loopF, gc_mk, gcIds_mk, newIds_nil, newIds_cons, gcMap_at, posOf, ren, renC, renO_box, renO_tail, idsV, idsC, idsO_box, idsO_tail, aAppend, wipe_agg, wipe_int, wipe_str, wipeR_tuple, wipeC_list, wipeC_bool, wipeC_str, isData_list_none, isData_list_full, isData_list_tail, isData_bool, isData_int, isData_str, isData_agg, isData_ptr, isDataL_nil, isDataL_cons, beq_self_eq_true, Option.map_some, Option.getD_some, List.map_cons, List.map_nil, List.flatMap_cons, List.flatMap_nil, List.length_cons, List.length_nil, List.length_map, List.cons_append, List.nil_append, List.append_nil, List.getElem?_cons_zero, List.getElem?_cons_succ, List.set_cons_zero, List.set_cons_succ, List.take_succ_cons, List.take_zero, List.drop_succ_cons, List.drop_zero, List.take_nil, List.drop_nil, List.all_cons, List.all_nil, List.not_mem_nil, ↓reduceIte, Bool.and_true, Bool.not_true, Bool.false_eq_true, and_true, not_false_eq_true, decide_false, and_self, Nat.le_refl, Nat.add_zero, Nat.zero_add, Nat.reduceEqDiff, Nat.reduceAdd, Nat.reduceLT, Nat.reduceLeDiff, kt_nil, gt_iff_lt, onlyVal, data_Datas, data_Vals, data_Maps, outOf_val, h1, h2, h3, kB, m1, m2, s1, s2, s3, hfre, n0', n1', doCall_p L hp, hp, bne]
    · have kB := kB (m.length + o.length)
      rcases cd5 with ⟨d1, d2⟩ | ⟨d1, d2⟩ <;> rcases cv5 with ⟨v1, v2⟩ | ⟨v1, v2⟩ <;> rcases cv6 with ⟨v3, v4⟩ | ⟨v3, v4⟩ <;>
        simp only [d1, d2, v1, v2, v3, v4, List.length_cons, List.length_nil, Nat.zero_add, Nat.add_zero, Nat.reduceAdd, List.cons_append, List.nil_append, reduceCtorEq, List.cons_ne_nil] at kB v4 <;>
        simp -implicitDefEqProofs only [code_skip, code_ops, code_kops, opsK_nil, opsK_cons, opK_pcall, opK_move, opK_loadN, opK_field, opK_extract, code_seq, code_cond, code_ret, ops_cons, ops_cons_g, ops_nil, aOp, opd, upd_at, upd_none, initTm_at, kt_cons, stepVal, stepHeap, aBin, aStr, aLen, aInt, isShift, aWanted, aLoad1, aStore, readAt, aField, fillA, leaf, acells_agg, cellsSet, endFn, aResults, aResult, tupled, code_loopF, gc_mk, gcIds_mk, newIds_nil, newIds_cons, gcMap_at, posOf, ren, renC, renO_box, renO_tail, idsV, idsC, idsO_box, idsO_tail, aAppend, wipe_agg, wipe_int, wipe_str, wipeR_tuple, wipeC_list, wipeC_bool, wipeC_str, isData_list_none, isData_list_full, isData_list_tail, isData_bool, isData_int, isData_str, isData_agg, isData_ptr, isDataL_nil, isDataL_cons, isDataL_append, beq_self_eq_true, Option.map_some, Option.getD_some, List.map_cons, List.map_nil, List.flatMap_cons, List.flatMap_nil, List.length_cons, List.length_nil, List.length_map, List.cons_append, List.nil_append, List.append_nil, List.getElem?_cons_zero, List.getElem?_cons_succ, List.set_cons_zero, List.set_cons_succ, List.take_succ_cons, List.take_zero, List.drop_succ_cons, List.drop_zero, List.take_nil, List.drop_nil, List.all_cons, List.all_nil, List.not_mem_nil, ↓reduceIte, Bool.and_true, Bool.not_true, Bool.false_eq_true, and_true, not_false_eq_true, decide_false, and_self, Nat.le_refl, Nat.add_zero, Nat.zero_add, Nat.reduceEqDiff, Nat.reduceAdd, Nat.reduceLT, Nat.reduceLeDiff, maxLen_eq, kt_nil, gt_iff_lt, onlyVal, data_Datas, data_Vals, data_Maps, all_Maps, outOf_val, h1, h2, h3, kB, m1, m2, co, hle, s1, s2, s3, hfre, n0', n1', doCall_p L hp, hp, bne]
  · rcases cm with rfl | ⟨m1, m2⟩ <;> rcases co with rfl | co
    · simp only [List.nil_append, List.append_nil, List.map_nil, List.length_nil, Nat.zero_add, Nat.add_zero] at kA h2 ⊢
      rcases cd4 with ⟨d1, d2⟩ | ⟨d1, d2⟩ <;> rcases cv4 with ⟨v1, v2⟩ | ⟨v1, v2⟩ <;> rcases cv5 with ⟨v3, v4⟩ | ⟨v3, v4⟩ <;>
        simp only [d1, d2, v1, v2, v3, v4, List.length_cons, List.length_nil, Nat.zero_add, Nat.add_zero, Nat.reduceAdd, List.cons_append, List.nil_append, reduceCtorEq, List.cons_ne_nil] at kA v4 <;>
        simp -implicitDefEqProofs only [code_skip, code_ops, code_kops, opsK_nil, opsK_cons, opK_pcall, opK_move, opK_loadN, opK_field, opK_extract, code_draw, code_seq, code_cond, code_ret, ops_cons, ops_cons_g, ops_nil, aOp, opd, upd_at, upd_none, initTm_at, kt_cons, stepVal, stepHeap, aBin, aStr, aLen, aInt, isShift, aWanted, aLoad1, aStore, readAt, aField, fillA, leaf, acells_agg, cellsSet, endFn, aResults, aResult, tupled, code_loopF, gc_mk, gcIds_mk, newIds_nil, newIds_cons, gcMap_at, posOf, ren, renC, renO_box, renO_tail, idsV, idsC, idsO_box, idsO_tail, draw_eq, opsH_nil, opsH_cons, isLoud, aAppend, wipe_agg, wipe_int, wipe_str, wipeR_tuple, wipeC_list, wipeC_bool, wipeC_str, isData_list_none, isData_list_full, isData_list_tail, isData_bool, isData_int, isData_str, isData_agg, isData_ptr, isDataL_nil, isDataL_cons, beq_self_eq_true, Option.map_some, Option.getD_some, List.map_cons, List.map_nil, List.flatMap_cons, List.flatMap_nil, List.length_cons, List.length_nil, List.length_map, List.cons_append, List.nil_append, List.append_nil, List.getElem?_cons_zero, List.getElem?_cons_succ, List.set_cons_zero, List.set_cons_succ, List.take_succ_cons, List.take_zero, List.drop_succ_cons, List.drop_zero, List.take_nil, List.drop_nil, List.all_cons, List.all_nil, List.not_mem_nil, ↓reduceIte, Bool.and_true, Bool.not_true, Bool.false_eq_true, and_true, not_false_eq_true, decide_false, and_self, Nat.le_refl, Nat.add_zero, Nat.zero_add, Nat.reduceEqDiff, Nat.reduceAdd, Nat.reduceLT, Nat.reduceLeDiff, checksP_nil, drawTo_if, kt_nil, gt_iff_lt, onlyVal, data_Datas, data_Vals, outOf_val, ownAt_zero, tailAt_zero, h1, h2, h3, kA, s1, s2, s3, s4, s5, hfre, n0', n1', hit, doCall_p L hp, hp, bne]
    · have kB := kB o.length
      simp only [List.nil_append, List.map_nil, List.length_nil, Nat.zero_add] at kB h2 hle ⊢
      rcases cd5 with ⟨d1, d2⟩ | ⟨d1, d2⟩ <;> rcases cv5 with ⟨v1, v2⟩ | ⟨v1, v2⟩ <;> rcases cv6 with ⟨v3, v4⟩ | ⟨v3, v4⟩ <;>
        simp only [d1, d2, v1, v2, v3, v4, List.length_cons, List.length_nil, Nat.zero_add, Nat.add_zero, Nat.reduceAdd, List.cons_append, List.nil_append, reduceCtorEq, List.cons_ne_nil] at kB v4 <;>
        simp -implicitDefEqProofs only [code_skip, code_ops, code_kops, opsK_nil, opsK_cons, opK_pcall, opK_move, opK_loadN, opK_field, opK_extract, code_draw, code_seq, code_cond, code_ret, ops_cons, ops_cons_g, ops_nil, aOp, opd, upd_at, upd_none, initTm_at, kt_cons, stepVal, stepHeap, aBin, aStr, aLen, aInt, isShift, aWanted, aLoad1, aStore, readAt, aField, fillA, leaf, acells_agg, cellsSet, endFn, aResults, aResult, tupled, code_loopF, gc_mk, gcIds_mk, newIds_nil, newIds_cons, gcMap_at, posOf, ren, renC, renO_box, renO_tail, idsV, idsC, idsO_box, idsO_tail, draw_eq, opsH_nil, opsH_cons, isLoud, aAppend, wipe_agg, wipe_int, wipe_str, wipeR_tuple, wipeC_list, wipeC_bool, wipeC_str, isData_list_none, isData_list_full, isData_list_tail, isData_bool, isData_int, isData_str, isData_agg, isData_ptr, isDataL_nil, isDataL_cons, beq_self_eq_true, Option.map_some, Option.getD_some, List.map_cons, List.map_nil, List.flatMap_cons, List.flatMap_nil, List.length_cons, List.length_nil, List.length_map, List.cons_append, List.nil_append, List.append_nil, List.getElem?_cons_zero, List.getElem?_cons_succ, List.set_cons_zero, List.set_cons_succ, List.take_succ_cons, List.take_zero, List.drop_succ_cons, List.drop_zero, List.take_nil, List.drop_nil, List.all_cons, List.all_nil, List.not_mem_nil, ↓reduceIte, Bool.and_true, Bool.not_true, Bool.false_eq_true, and_true, not_false_eq_true, decide_false, and_self, Nat.le_refl, Nat.add_zero, Nat.zero_add, Nat.reduceEqDiff, Nat.reduceAdd, Nat.reduceLT, Nat.reduceLeDiff, maxLen_eq, checksP_nil, drawTo_if, kt_nil, gt_iff_lt, onlyVal, data_Datas, data_Vals, data_Maps, all_Maps, outOf_val, ownAt_zero, tailAt_zero, h1, h2, h3, kB, co, hle, s1, s2, s3, s4, s5, hfre, n0', n1', hit, doCall_p L hp, hp, bne]
    · have kB := kB m.length
      simp only [List.append_nil, List.map_nil, List.length_nil, Nat.add_zero] at kB h2 hle ⊢
      rcases cd5 with ⟨d1, d2⟩ | ⟨d1, d2⟩ <;> rcases cv5 with ⟨v1, v2⟩ | ⟨v1, v2⟩ <;> rcases cv6 with ⟨v3, v4⟩ | ⟨v3, v4⟩ <;>
        simp only [d1, d2, v1, v2, v3, v4, List.length_cons, List.length_nil, Nat.zero_add, Nat.add_zero, Nat.reduceAdd, List.cons_append, List.nil_append, reduceCtorEq, List.cons_ne_nil] at kB v4 <;>
        simp -implicitDefEqProofs only [code_skip, code_ops, code_kops, opsK_nil, opsK_cons, opK_pcall, opK_move, opK_loadN, opK_field, opK_extract, code_draw, code_seq, code_cond, code_ret, ops_cons, ops_cons_g, ops_nil, aOp, opd, upd_at, upd_none, initTm_at, kt_cons, stepVal, stepHeap, aBin, aStr, aLen, aInt, isShift, aWanted, aLoad1, aStore, readAt, aField, fillA, leaf, acells_agg, cellsSet, endFn, aResults, aResult, tupled, code_loopF, gc_mk, gcIds_mk, newIds_nil, newIds_cons, gcMap_at, posOf, ren, renC, renO_box, renO_tail, idsV, idsC, idsO_box, idsO_tail, draw_eq, opsH_nil, opsH_cons, isLoud, aAppend, wipe_agg, wipe_int, wipe_str, wipeR_tuple, wipeC_list, wipeC_bool, wipeC_str, isData_list_none, isData_list_full, isData_list_tail, isData_bool, isData_int, isData_str, isData_agg, isData_ptr, isDataL_nil, isDataL_cons, beq_self_eq_true, Option.map_some, Option.getD_some, List.map_cons, List.map_nil, List.flatMap_cons, List.flatMap_nil, List.length_cons, List.length_nil, List.length_map, List.cons_append, List.nil_append, List.append_nil, List.getElem?_cons_zero, List.getElem?_cons_succ, List.set_cons_zero, List.set_cons_succ, List.take_succ_cons, List.take_zero, List.drop_succ_cons, List.drop_zero, List.take_nil, List.drop_nil, List.all_cons, List.all_nil, List.not_mem_nil, ↓reduceIte, Bool.and_true, Bool.not_true, Bool.false_eq_true, and_true, not_false_eq_true, decide_false, and_self, Nat.le_refl, Nat.add_zero, Nat.zero_add, Nat.reduceEqDiff, Nat.reduceAdd, Nat.reduceLT, Nat.reduceLeDiff, checksP_nil, drawTo_if, kt_nil, gt_iff_lt, onlyVal, data_Datas, data_Vals, data_Maps, outOf_val, h1, h2, h3, kB, m1, m2, s1, s2, s3, s4, s5, hfre, n0', n1', hit, doCall_p L hp, hp, bne]
    · have kB := kB (m.length + o.length)
      rcases cd5 with ⟨d1, d2⟩ | ⟨d1, d2⟩ <;> rcases cv5 with ⟨v1, v2⟩ | ⟨v1, v2⟩ <;> rcases cv6 with ⟨v3, v4⟩ | ⟨v3, v4⟩ <;>
        simp only [d1, d2, v1, v2, v3, v4, List.length_cons, List.length_nil, Nat.zero_add, Nat.add_zero, Nat.reduceAdd, List.cons_append, List.nil_append, reduceCtorEq, List.cons_ne_nil] at kB v4 <;>
        simp -implicitDefEqProofs only [code_skip, code_ops, code_kops, opsK_nil, opsK_cons, opK_pcall, opK_move, opK_loadN, opK_field, opK_extract, code_draw, code_seq, code_cond, code_ret, ops_cons, ops_cons_g, ops_nil, aOp, opd, upd_at, upd_none, initTm_at, kt_cons, stepVal, stepHeap, aBin, aStr, aLen, aInt, isShift, aWanted, aLoad1, aStore, readAt, aField, fillA, leaf, acells_agg, cellsSet, endFn, aResults, aResult, tupled, code_loopF, gc_mk, gcIds_mk, newIds_nil, newIds_cons, gcMap_at, posOf, ren, renC, renO_box, renO_tail, idsV, idsC, idsO_box, idsO_tail, draw_eq, opsH_nil, opsH_cons, isLoud, aAppend, wipe_agg, wipe_int, wipe_str, wipeR_tuple, wipeC_list, wipeC_bool, wipeC_str, isData_list_none, isData_list_full, isData_list_tail, isData_bool, isData_int, isData_str, isData_agg, isData_ptr, isDataL_nil, isDataL_cons, isDataL_append, beq_self_eq_true, Option.map_some, Option.getD_some, List.map_cons, List.map_nil, List.flatMap_cons, List.flatMap_nil, List.length_cons, List.length_nil, List.length_map, List.cons_append, List.nil_append, List.append_nil, List.getElem?_cons_zero, List.getElem?_cons_succ, List.set_cons_zero, List.set_cons_succ, List.take_succ_cons, List.take_zero, List.drop_succ_cons, List.drop_zero, List.take_nil, List.drop_nil, List.all_cons, List.all_nil, List.not_mem_nil, ↓reduceIte, Bool.and_true, Bool.not_true, Bool.false_eq_true, and_true, not_false_eq_true, decide_false, and_self, Nat.le_refl, Nat.add_zero, Nat.zero_add, Nat.reduceEqDiff, Nat.reduceAdd, Nat.reduceLT, Nat.reduceLeDiff, maxLen_eq, checksP_nil, drawTo_if, kt_nil, gt_iff_lt, onlyVal, data_Datas, data_Vals, data_Maps, all_Maps, outOf_val, h1, h2, h3, kB, m1, m2, co, hle, s1, s2, s3, s4, s5, hfre, n0', n1', hit, doCall_p L hp, hp, bne]
end
end Go.Abs
