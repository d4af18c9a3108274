/-
  The ranges of a node's numbers. Conditions: none.
-/
import Derived.Test.YtciacognbcgfiaaDoorCoreC
set_option linter.unusedVariables false
set_option linter.unusedSimpArgs false
set_option maxRecDepth 100000
set_option maxHeartbeats 4000000
namespace Go.Abs
def lowHigh (op : Int) : Int × Int :=
  if op = 1 then (-1073741824, 1073741823) else if op = 6 then (0, 255) else if op = 17 then (1, 6) else if op = 16 then (0, 15) else (0, 1048575)
def idBad (n : Int) : Bool := !decide (0 ≤ n ∧ n ≤ 1048575)
theorem idBad_true {n : Int} (h : idBad n = true) : decide (0 ≤ n ∧ n ≤ 1048575) = false := by
  unfold idBad at h
  cases hd : decide (0 ≤ n ∧ n ≤ 1048575) with
  | false => rfl
  | true => rw [hd] at h; cases h
def altRange (op : Int) (a : CAlt) : Bool := (decide (255 < a.tag) && op == 7) || decide (1048576 ≤ a.tag) || a.binds.any idBad
def fieldsMax (b : Int) (as : List CAlt) : Int := as.foldl (fun m a => max m (a.binds.length : Int)) b
def tooMany (op f : Int) (kl : Nat) : Bool :=
  decide ((if op = 2 then 6 else 16) < f) || ((op == 6 || op == 15) && decide (16 < (kl : Int))) || (op == 3 && decide (7 < (kl : Int))) || (op == 14 && decide (6 < (kl : Int)))
def rangesErr (op n : Int) (binds : List Int) (kl : Nat) (as : List CAlt) : Int :=
  if ¬ ((lowHigh op).1 ≤ n ∧ n ≤ (lowHigh op).2) then 4
  else if binds.any idBad = true then 4
  else if as.any (altRange op) = true then 4
  else if tooMany op (fieldsMax binds.length as) kl = true then 2 else 0
theorem findFrom_any' {α β : Type} (p : α → Bool) (r : Nat → β) : ∀ (xs : List α) (k : Nat), (findFrom (fun i a => if p a = true then some (r i) else none) xs k).isSome = xs.any p
  | [], k => rfl
  | x :: xs, k => by
    rw [findFrom, List.any_cons]
    cases hp : p x
    · simp only [Bool.false_eq_true, if_false, Bool.false_or]
      exact findFrom_any' p r xs (k + 1)
    · rfl
section
variable {L : Lib} (hL : Plain L)
theorem ranges_tail (op n : Int) (binds kids : List Int) (as : List CAlt) (f : Int) (tm : Tmps) (h1 : tm 1 = .ptr (some (0, 0))) (h5 : tm 5 = .int .i64 f) :
    outOf (endFn [.tmp 2] (aCode L.pure (call L) fn235_t2 ⟨tm, [.box [.int .i64 op, .int .i64 n, .list (binds.map encI) none, .list (kids.map encI) none, .list (as.map encAlt) none]]⟩)) =
      some (.val (.int .i64 (if tooMany op f kids.length = true then 2 else 0))) := by
  unfold tooMany fn235_t2
  by_cases h2 : op = 2
  · subst h2
    by_cases hf : 6 < f <;> simp -implicitDefEqProofs only [code_skip, code_ops, code_seq, code_cond, code_ret, ops_cons, ops_cons_g, ops_nil, aOp, opd, upd_at, stepVal, aBin, aInt, isShift, aWanted, aLoad1, aField, endFn, aResults, aResult, tupled, wipeR_int, beqTF, beqFT, beq_self_eq_true, List.getElem?_cons_zero, ↓reduceIte, Bool.false_and, Bool.or_false, Bool.false_eq_true, decide_true, decide_false, Nat.add_zero, Nat.reduceEqDiff, Int.reduceBEq, gt_iff_lt, outOf_val, h1, h5, hf]
  · have e2 : (op == 2) = false := by simpa using h2
    by_cases hf : 16 < f
    · simp -implicitDefEqProofs only [code_skip, code_ops, code_seq, code_cond, code_ret, ops_cons, ops_cons_g, ops_nil, aOp, opd, upd_at, stepVal, aBin, aInt, isShift, aWanted, aLoad1, aField, endFn, aResults, aResult, tupled, wipeR_int, beqTF, List.getElem?_cons_zero, ↓reduceIte, Bool.true_or, Bool.false_eq_true, decide_true, Nat.add_zero, Nat.reduceEqDiff, gt_iff_lt, outOf_val, h1, h5, hf, h2, e2]
    · by_cases h6 : op = 6
      · subst h6
        by_cases hk : (16 : Int) < kids.length <;> simp -implicitDefEqProofs only [code_skip, code_ops, code_seq, code_cond, code_ret, ops_cons, ops_cons_g, ops_nil, aOp, opd, upd_at, stepVal, aBin, aLen, aInt, isShift, aWanted, aLoad1, aField, endFn, aResults, aResult, tupled, wipeR_int, beqTF, beqFT, beq_self_eq_true, List.length_map, List.getElem?_cons_zero, List.getElem?_cons_succ, ↓reduceIte, Bool.and_true, Bool.and_false, Bool.false_and, Bool.or_true, Bool.or_false, Bool.false_eq_true, decide_true, decide_false, Nat.add_zero, Nat.zero_add, Nat.reduceEqDiff, Int.reduceEq, Int.reduceBEq, gt_iff_lt, outOf_val, h1, h5, hf, hk]
      · by_cases h15 : op = 15
        · subst h15
          by_cases hk : (16 : Int) < kids.length <;> simp -implicitDefEqProofs only [code_skip, code_ops, code_seq, code_cond, code_ret, ops_cons, ops_cons_g, ops_nil, aOp, opd, upd_at, stepVal, aBin, aLen, aInt, isShift, aWanted, aLoad1, aField, endFn, aResults, aResult, tupled, wipeR_int, beqTF, beqFT, beq_self_eq_true, List.length_map, List.getElem?_cons_zero, List.getElem?_cons_succ, ↓reduceIte, Bool.and_true, Bool.and_false, Bool.false_and, Bool.or_true, Bool.or_false, Bool.false_eq_true, decide_true, decide_false, Nat.add_zero, Nat.zero_add, Nat.reduceEqDiff, Int.reduceEq, Int.reduceBEq, gt_iff_lt, outOf_val, h1, h5, hf, hk]
        · by_cases h3 : op = 3
          · subst h3
            by_cases hk : (7 : Int) < kids.length <;> simp -implicitDefEqProofs only [code_skip, code_ops, code_seq, code_cond, code_ret, ops_cons, ops_cons_g, ops_nil, aOp, opd, upd_at, stepVal, aBin, aLen, aInt, isShift, aWanted, aLoad1, aField, endFn, aResults, aResult, tupled, wipeR_int, beqTF, beqFT, beq_self_eq_true, List.length_map, List.getElem?_cons_zero, List.getElem?_cons_succ, ↓reduceIte, Bool.and_true, Bool.and_false, Bool.false_and, Bool.or_true, Bool.or_false, Bool.false_eq_true, decide_true, decide_false, Nat.add_zero, Nat.zero_add, Nat.reduceEqDiff, Int.reduceEq, Int.reduceBEq, gt_iff_lt, outOf_val, h1, h5, hf, hk]
          · by_cases h14 : op = 14
            · subst h14
              by_cases hk : (6 : Int) < kids.length <;> simp -implicitDefEqProofs only [code_skip, code_ops, code_seq, code_cond, code_ret, ops_cons, ops_cons_g, ops_nil, aOp, opd, upd_at, stepVal, aBin, aLen, aInt, isShift, aWanted, aLoad1, aField, endFn, aResults, aResult, tupled, wipeR_int, beqFT, beq_self_eq_true, List.length_map, List.getElem?_cons_zero, List.getElem?_cons_succ, ↓reduceIte, Bool.and_true, Bool.and_false, Bool.false_and, Bool.or_true, Bool.or_false, Bool.false_eq_true, decide_true, decide_false, Nat.add_zero, Nat.zero_add, Nat.reduceEqDiff, Int.reduceEq, Int.reduceBEq, gt_iff_lt, outOf_val, h1, h5, hf, hk]
            · have e6 : (op == 6) = false := by simpa using h6
              have e15 : (op == 15) = false := by simpa using h15
              have e3 : (op == 3) = false := by simpa using h3
              have e14 : (op == 14) = false := by simpa using h14
              simp -implicitDefEqProofs only [code_skip, code_ops, code_seq, code_cond, code_ret, ops_cons, ops_cons_g, ops_nil, aOp, opd, upd_at, stepVal, aBin, aInt, isShift, aWanted, aLoad1, aField, endFn, aResults, aResult, tupled, wipeR_int, beqFT, beq_self_eq_true, List.getElem?_cons_zero, ↓reduceIte, Bool.false_and, Bool.or_false, Bool.false_eq_true, decide_false, Nat.add_zero, Nat.reduceEqDiff, gt_iff_lt, outOf_val, h1, h5, hf, h2, e2, e6, e15, e3, e14]
include hL
theorem ranges_l0 (h259 : L.fns 259 = some fn259) (op n : Int) (binds kids : List Int) (as : List CAlt) (hb : binds.length < 2 ^ 30) (f : Int) : 
    loopF L.pure (call L) 1 [1, 5, 33, 34, 35] [1, 2, 5] 1 fn235_l0 ⟨kt [1, 5, 33, 34, 35] [.ptr (some (0, 0)), .int .i64 f, .list (binds.map encI) none, .int .i64 binds.length, .int .i64 ((0 : Nat) : Int)], [.box [.int .i64 op, .int .i64 n, .list (binds.map encI) none, .list (kids.map encI) none, .list (as.map encAlt) none]]⟩ =
    some (if binds.any idBad = true then (.ret, ⟨kt [1, 2, 5] [.ptr (some (0, 0)), .int .i64 4, .int .i64 f], [.box [.int .i64 op, .int .i64 n, .list (binds.map encI) none, .list (kids.map encI) none, .list (as.map encAlt) none]]⟩)
      else (.normal, ⟨kt [1, 2, 5] [.ptr (some (0, 0)), .junk, .int .i64 f], [.box [.int .i64 op, .int .i64 n, .list (binds.map encI) none, .list (kids.map encI) none, .list (as.map encAlt) none]]⟩)) := by
  have hp := hL.pure
  refine loopF_any binds idBad (fun i => ⟨kt [1, 5, 33, 34, 35] [.ptr (some (0, 0)), .int .i64 f, .list (binds.map encI) none, .int .i64 binds.length, .int .i64 i], _⟩) _ _ ?_ ?_ ?_
  · intro i hi hq
    obtain ⟨h1, h2, h3⟩ := round_c encI binds hb i hi
    have hbt := between_ok hL h259 binds[i] 0 1048575
    have hq : decide (0 ≤ binds[i] ∧ binds[i] ≤ 1048575) = true := by simpa [idBad] using hq
    rw [hq] at hbt
    generalize binds[i] = a at *
    unfold fn235_l0
    simp -implicitDefEqProofs only [code_skip, code_ops, code_seq, code_cond, code_block, ops_cons, ops_nil, aOp, opd, upd_at, kt_cons, stepVal, aBin, aInt, aUn, aIndexList, isShift, aLoad1, acells_int, gc_mk, isTrim_cons, gcIds_mk, newIds_nil, newIds_cons, gcMap_at, posOf, ren, renC, renO_box, idsV, idsC, idsO_box, wipe_int, isData_list_none, isData_int, isData_ptr, isDataL_nil, isDataL_cons, List.map_cons, List.map_nil, List.flatMap_cons, List.flatMap_nil, List.length_cons, List.length_nil, List.append_nil, List.getElem?_cons_zero, List.take_succ_cons, List.take_nil, List.not_mem_nil, ↓reduceIte, Bool.and_true, Bool.not_true, Bool.false_eq_true, and_true, not_false_eq_true, decide_true, decide_false, and_self, Nat.le_refl, Nat.zero_add, Nat.reduceEqDiff, Nat.reduceLT, Nat.reduceLeDiff, Int.toNat_natCast, Int.natCast_nonneg, roundF_eq, kt_nil, onlyVal, encI_eq, data_Ints, data_Alts, h1, h2, h3, hbt, doCall_p L hp, hp]
  · intro i hi hq
    obtain ⟨h1, h2, h3⟩ := round_c encI binds hb i hi
    have hbt := between_ok hL h259 binds[i] 0 1048575
    have hq : decide (0 ≤ binds[i] ∧ binds[i] ≤ 1048575) = false := idBad_true hq
    rw [hq] at hbt
    generalize binds[i] = a at *
    unfold fn235_l0
    simp -implicitDefEqProofs only [code_skip, code_ops, code_seq, code_cond, code_block, code_ret, ops_cons, ops_nil, aOp, opd, upd_at, kt_cons, stepVal, aBin, aInt, aUn, aIndexList, isShift, aLoad1, acells_int, gcE, gc_mk, isTrim_cons, gcIds_mk, newIds_nil, newIds_cons, gcMap_at, posOf, ren, renC, renO_box, idsV, idsC, idsO_box, wipe_int, isData_list_none, isData_int, isData_ptr, isDataL_nil, isDataL_cons, List.map_cons, List.map_nil, List.flatMap_cons, List.flatMap_nil, List.length_cons, List.length_nil, List.append_nil, List.getElem?_cons_zero, List.take_succ_cons, List.take_nil, List.not_mem_nil, ↓reduceIte, Bool.and_true, Bool.not_false, Bool.false_eq_true, and_true, not_false_eq_true, decide_true, decide_false, and_self, Nat.le_refl, Nat.zero_add, Nat.reduceEqDiff, Nat.reduceLT, Nat.reduceLeDiff, Int.toNat_natCast, Int.natCast_nonneg, roundF_eq, kt_nil, onlyVal, encI_eq, data_Ints, data_Alts, h1, h2, h3, hbt, doCall_p L hp, hp]
  · have h0 := append_c binds.length
    unfold fn235_l0
    simp -implicitDefEqProofs only [code_ops, code_seq, code_cond, code_exit, ops_cons, ops_nil, aOp, opd, upd_at, kt_cons, stepVal, aBin, aInt, isShift, gcE, gc_mk, isTrim_cons, gcIds_mk, newIds_nil, newIds_cons, gcMap_at, posOf, ren, renC, renO_box, idsV, idsC, idsO_box, isData_list_none, isData_int, isData_ptr, isData_junk, List.map_cons, List.map_nil, List.flatMap_cons, List.flatMap_nil, List.length_cons, List.length_nil, List.append_nil, List.take_succ_cons, List.take_nil, List.not_mem_nil, ↓reduceIte, Bool.false_eq_true, and_true, not_false_eq_true, decide_false, Nat.le_refl, Nat.zero_add, Nat.reduceEqDiff, Nat.reduceLT, Nat.reduceLeDiff, roundF_eq, kt_nil, data_Ints, data_Alts, h0]
theorem ranges_l1 (h259 : L.fns 259 = some fn259) (op n : Int) (binds kids : List Int) (as : List CAlt) (a : CAlt) (hb : a.binds.length < 2 ^ 30) (f : Int) (i : Nat) : 
    loopF L.pure (call L) 2 [1, 5, 9, 44, 45, 46, 64, 65, 66] [1, 2, 5, 9, 44, 45, 46] 5 fn235_l1 ⟨kt [1, 5, 9, 44, 45, 46, 64, 65, 66] [.ptr (some (0, 0)), .int .i64 f, .ptr (some (1, 0)), .list (as.map encAlt) none, .int .i64 as.length, .int .i64 i, .list (a.binds.map encI) none, .int .i64 a.binds.length, .int .i64 ((0 : Nat) : Int)], [.box [.int .i64 op, .int .i64 n, .list (binds.map encI) none, .list (kids.map encI) none, .list (as.map encAlt) none], .box [.int .i64 a.tag, .list (a.binds.map encI) none]]⟩ =
    some (if a.binds.any idBad = true then (.ret, ⟨kt [1, 2, 5, 9, 44, 45, 46] [.ptr (some (0, 0)), .int .i64 4, .int .i64 f, .ptr (some (1, 0)), .list (as.map encAlt) none, .int .i64 as.length, .int .i64 i], [.box [.int .i64 op, .int .i64 n, .list (binds.map encI) none, .list (kids.map encI) none, .list (as.map encAlt) none], .box [.int .i64 a.tag, .list (a.binds.map encI) none]]⟩)
      else (.normal, ⟨kt [1, 2, 5, 9, 44, 45, 46] [.ptr (some (0, 0)), .junk, .int .i64 f, .ptr (some (1, 0)), .list (as.map encAlt) none, .int .i64 as.length, .int .i64 i], [.box [.int .i64 op, .int .i64 n, .list (binds.map encI) none, .list (kids.map encI) none, .list (as.map encAlt) none], .box [.int .i64 a.tag, .list (a.binds.map encI) none]]⟩)) := by
  have hp := hL.pure
  refine loopF_any a.binds idBad (fun j => ⟨kt [1, 5, 9, 44, 45, 46, 64, 65, 66] [.ptr (some (0, 0)), .int .i64 f, .ptr (some (1, 0)), .list (as.map encAlt) none, .int .i64 as.length, .int .i64 i, .list (a.binds.map encI) none, .int .i64 a.binds.length, .int .i64 j], _⟩) _ _ ?_ ?_ ?_
  · intro j hi hq
    obtain ⟨h1, h2, h3⟩ := round_c encI a.binds hb j hi
    have hbt := between_ok hL h259 a.binds[j] 0 1048575
    have hq : decide (0 ≤ a.binds[j] ∧ a.binds[j] ≤ 1048575) = true := by simpa [idBad] using hq
    rw [hq] at hbt
    generalize a.binds[j] = x at *
    unfold fn235_l1
    simp -implicitDefEqProofs only [code_skip, code_ops, code_seq, code_cond, code_block, ops_cons, ops_nil, aOp, opd, upd_at, kt_cons, stepVal, aBin, aInt, aUn, aIndexList, isShift, aLoad1, acells_int, gc_mk, isTrim_cons, gcIds_mk, newIds_nil, newIds_cons, gcMap_at, posOf, ren, renC, renO_box, idsV, idsC, idsO_box, wipe_int, isData_list_none, isData_int, isData_ptr, isDataL_nil, isDataL_cons, List.map_cons, List.map_nil, List.flatMap_cons, List.flatMap_nil, List.length_cons, List.length_nil, List.cons_append, List.nil_append, List.append_nil, List.getElem?_cons_zero, List.take_succ_cons, List.take_nil, List.not_mem_nil, ↓reduceIte, Bool.and_true, Bool.not_true, Bool.false_eq_true, and_true, not_false_eq_true, decide_true, decide_false, and_self, Nat.le_refl, Nat.zero_add, Nat.reduceEqDiff, Nat.reduceAdd, Nat.reduceLT, Nat.reduceLeDiff, Int.toNat_natCast, Int.natCast_nonneg, roundF_eq, kt_nil, onlyVal, encI_eq, data_Ints, data_Alts, h1, h2, h3, hbt, doCall_p L hp, hp]
  · intro j hi hq
    obtain ⟨h1, h2, h3⟩ := round_c encI a.binds hb j hi
    have hbt := between_ok hL h259 a.binds[j] 0 1048575
    have hq : decide (0 ≤ a.binds[j] ∧ a.binds[j] ≤ 1048575) = false := idBad_true hq
    rw [hq] at hbt
    generalize a.binds[j] = x at *
    unfold fn235_l1
    simp -implicitDefEqProofs only [code_skip, code_ops, code_seq, code_cond, code_block, code_ret, ops_cons, ops_nil, aOp, opd, upd_at, kt_cons, stepVal, aBin, aInt, aUn, aIndexList, isShift, aLoad1, acells_int, gcE, gc_mk, isTrim_cons, gcIds_mk, newIds_nil, newIds_cons, gcMap_at, posOf, ren, renC, renO_box, idsV, idsC, idsO_box, wipe_int, isData_list_none, isData_int, isData_ptr, isDataL_nil, isDataL_cons, List.map_cons, List.map_nil, List.flatMap_cons, List.flatMap_nil, List.length_cons, List.length_nil, List.cons_append, List.nil_append, List.append_nil, List.getElem?_cons_zero, List.take_succ_cons, List.take_nil, List.not_mem_nil, ↓reduceIte, Bool.and_true, Bool.not_false, Bool.false_eq_true, and_true, not_false_eq_true, decide_true, decide_false, and_self, Nat.le_refl, Nat.zero_add, Nat.reduceEqDiff, Nat.reduceAdd, Nat.reduceLT, Nat.reduceLeDiff, Int.toNat_natCast, Int.natCast_nonneg, roundF_eq, kt_nil, onlyVal, encI_eq, data_Ints, data_Alts, h1, h2, h3, hbt, doCall_p L hp, hp]
  · have h0 := append_c a.binds.length
    unfold fn235_l1
    simp -implicitDefEqProofs only [code_ops, code_seq, code_cond, code_exit, ops_cons, ops_nil, aOp, opd, upd_at, kt_cons, stepVal, aBin, aInt, isShift, gcE, gc_mk, isTrim_cons, gcIds_mk, newIds_nil, newIds_cons, gcMap_at, posOf, ren, renC, renO_box, idsV, idsC, idsO_box, isData_list_none, isData_int, isData_ptr, isData_junk, List.map_cons, List.map_nil, List.flatMap_cons, List.flatMap_nil, List.length_cons, List.length_nil, List.cons_append, List.nil_append, List.append_nil, List.take_succ_cons, List.take_nil, List.not_mem_nil, ↓reduceIte, Bool.false_eq_true, and_true, not_false_eq_true, decide_false, Nat.le_refl, Nat.zero_add, Nat.reduceEqDiff, Nat.reduceAdd, Nat.reduceLT, Nat.reduceLeDiff, roundF_eq, kt_nil, data_Ints, data_Alts, h0]
theorem ranges_l2 (h259 : L.fns 259 = some fn259) (op n : Int) (binds kids : List Int) (as : List CAlt) (hl : as.length < 2 ^ 30) (ha : ∀ a ∈ as, a.binds.length < 2 ^ 30) (b : Int) :
    loopF L.pure (call L) 1 [1, 5, 44, 45, 46] [1, 2, 5] 3 fn235_l2 ⟨kt [1, 5, 44, 45, 46] [.ptr (some (0, 0)), .int .i64 b, .list (as.map encAlt) none, .int .i64 as.length, .int .i64 ((0 : Nat) : Int)], [.box [.int .i64 op, .int .i64 n, .list (binds.map encI) none, .list (kids.map encI) none, .list (as.map encAlt) none]]⟩ =
    some (fromFind (fun f => ⟨kt [1, 2, 5] [.ptr (some (0, 0)), .int .i64 4, .int .i64 f], [.box [.int .i64 op, .int .i64 n, .list (binds.map encI) none, .list (kids.map encI) none, .list (as.map encAlt) none]]⟩)
      ⟨kt [1, 2, 5] [.ptr (some (0, 0)), .junk, .int .i64 (fieldsMax b as)], [.box [.int .i64 op, .int .i64 n, .list (binds.map encI) none, .list (kids.map encI) none, .list (as.map encAlt) none]]⟩
      (findFrom (fun i a => if altRange op a = true then some (fieldsMax b (as.take i)) else none) as 0)) := by
  have hp := hL.pure
  have hround : ∀ (i : Nat) (hi : i < as.length), roundF L.pure (call L) 1 [1, 5, 44, 45, 46] [1, 2, 5] fn235_l2 ⟨kt [1, 5, 44, 45, 46] [.ptr (some (0, 0)), .int .i64 (fieldsMax b (as.take i)), .list (as.map encAlt) none, .int .i64 as.length, .int .i64 i], [.box [.int .i64 op, .int .i64 n, .list (binds.map encI) none, .list (kids.map encI) none, .list (as.map encAlt) none]]⟩ =
      some (if altRange op as[i] = true then (.ret, ⟨kt [1, 2, 5] [.ptr (some (0, 0)), .int .i64 4, .int .i64 (fieldsMax b (as.take i))], [.box [.int .i64 op, .int .i64 n, .list (binds.map encI) none, .list (kids.map encI) none, .list (as.map encAlt) none]]⟩)
        else (.normal, ⟨kt [1, 5, 44, 45, 46] [.ptr (some (0, 0)), .int .i64 (fieldsMax b (as.take (i + 1))), .list (as.map encAlt) none, .int .i64 as.length, .int .i64 ((i + 1 : Nat) : Int)], [.box [.int .i64 op, .int .i64 n, .list (binds.map encI) none, .list (kids.map encI) none, .list (as.map encAlt) none]]⟩)) := by
    intro i hi
    obtain ⟨h1, h2, h3⟩ := round_c encAlt as hl i hi
    have hs : fieldsMax b (as.take (i + 1)) = max (fieldsMax b (as.take i)) (as[i].binds.length : Int) := by
      rw [List.take_succ_eq_append_getElem hi]
      unfold fieldsMax
      rw [List.foldl_append]
      rfl
    rw [hs]
    have hb := ha as[i] (List.getElem_mem hi)
    generalize fieldsMax b (as.take i) = f at *
    have hl1 := ranges_l1 hL h259 op n binds kids as as[i] hb f i
    simp only [Int.natCast_zero] at hl1
    generalize as[i] = a at *
    have hmx := minMax_max f (a.binds.length : Int)
    unfold altRange
    by_cases e1 : (255 : Int) < a.tag
    · cases e7 : op == 7 with
      | true =>
        unfold fn235_l2
        simp -implicitDefEqProofs only [code_skip, code_ops, code_seq, code_cond, code_block, code_ret, ops_cons, ops_cons_g, ops_nil, aOp, opd, upd_at, upd_none, kt_cons, stepVal, stepHeap, aBin, aInt, aIndexList, isShift, aWanted, aLoad1, aStore, readAt, aField, leaf, acells_agg, cellsSet, gcE, gc_mk, isTrim_cons, gcIds_mk, newIds_nil, newIds_cons, gcMap_at, posOf, ren, renC, renO_box, idsV, idsC, idsO_box, isData_list_none, isData_int, isData_ptr, beqTF, beq_self_eq_true, Option.map_some, List.map_cons, List.map_nil, List.flatMap_cons, List.flatMap_nil, List.length_cons, List.length_nil, List.cons_append, List.nil_append, List.append_nil, List.getElem?_cons_zero, List.getElem?_cons_succ, List.set_cons_zero, List.set_cons_succ, List.take_succ_cons, List.take_zero, List.drop_succ_cons, List.drop_zero, List.take_nil, List.drop_nil, List.all_cons, List.all_nil, List.not_mem_nil, ↓reduceIte, Bool.and_true, Bool.true_or, Bool.false_eq_true, and_true, not_false_eq_true, decide_true, decide_false, and_self, Nat.le_refl, Nat.add_zero, Nat.zero_add, Nat.reduceEqDiff, Nat.reduceAdd, Nat.reduceLT, Nat.reduceLeDiff, Int.toNat_natCast, Int.natCast_nonneg, roundF_eq, kt_nil, gt_iff_lt, encAlt_eq, data_Ints, data_Alts, h1, h2, h3, e1, e7]
      | false =>
        by_cases e2 : (1048576 : Int) ≤ a.tag
        · unfold fn235_l2
          simp -implicitDefEqProofs only [code_skip, code_ops, code_seq, code_cond, code_block, code_ret, ops_cons, ops_cons_g, ops_nil, aOp, opd, upd_at, upd_none, kt_cons, stepVal, stepHeap, aBin, aInt, aIndexList, isShift, aWanted, aLoad1, aStore, readAt, aField, leaf, acells_agg, cellsSet, gcE, gc_mk, isTrim_cons, gcIds_mk, newIds_nil, newIds_cons, gcMap_at, posOf, ren, renC, renO_box, idsV, idsC, idsO_box, isData_list_none, isData_int, isData_ptr, beq_self_eq_true, Option.map_some, List.map_cons, List.map_nil, List.flatMap_cons, List.flatMap_nil, List.length_cons, List.length_nil, List.cons_append, List.nil_append, List.append_nil, List.getElem?_cons_zero, List.getElem?_cons_succ, List.set_cons_zero, List.set_cons_succ, List.take_succ_cons, List.take_zero, List.drop_succ_cons, List.drop_zero, List.take_nil, List.drop_nil, List.all_cons, List.all_nil, List.not_mem_nil, ↓reduceIte, Bool.and_true, Bool.and_false, Bool.or_true, Bool.true_or, Bool.false_eq_true, and_true, not_false_eq_true, decide_true, decide_false, and_self, Nat.le_refl, Nat.add_zero, Nat.zero_add, Nat.reduceEqDiff, Nat.reduceAdd, Nat.reduceLT, Nat.reduceLeDiff, Int.toNat_natCast, Int.natCast_nonneg, roundF_eq, kt_nil, ge_iff_le, gt_iff_lt, encAlt_eq, data_Ints, data_Alts, h1, h2, h3, e1, e7, e2]
        · cases e3 : a.binds.any idBad <;> simp only [e3, Bool.false_eq_true, if_true, if_false] at hl1 <;> unfold fn235_l2 <;> simp -implicitDefEqProofs only [code_skip, code_ops, code_seq, code_cond, code_block, ops_cons, ops_cons_g, ops_nil, aOp, opd, upd_at, upd_none, kt_cons, stepVal, stepHeap, aBin, aLen, aInt, aIndexList, isShift, aWanted, aLoad1, aStore, readAt, aField, leaf, acells_agg, cellsSet, code_loopF, gcE, gc_mk, isTrim_cons, gcIds_mk, newIds_nil, newIds_cons, gcMap_at, posOf, ren, renC, renO_box, idsV, idsC, idsO_box, isData_list_none, isData_int, isData_ptr, beq_self_eq_true, Option.map_some, List.map_cons, List.map_nil, List.flatMap_cons, List.flatMap_nil, List.length_cons, List.length_nil, List.length_map, List.cons_append, List.nil_append, List.append_nil, List.getElem?_cons_zero, List.getElem?_cons_succ, List.set_cons_zero, List.set_cons_succ, List.take_succ_cons, List.take_zero, List.drop_succ_cons, List.drop_zero, List.take_nil, List.drop_nil, List.all_cons, List.all_nil, List.not_mem_nil, ↓reduceIte, Bool.and_true, Bool.and_false, Bool.or_true, Bool.or_false, Bool.false_eq_true, and_true, not_false_eq_true, decide_true, decide_false, and_self, Nat.le_refl, Nat.add_zero, Nat.zero_add, Nat.reduceEqDiff, Nat.reduceAdd, Nat.reduceLT, Nat.reduceLeDiff, Int.toNat_natCast, Int.natCast_nonneg, roundF_eq, kt_nil, ge_iff_le, gt_iff_lt, encAlt_eq, data_Ints, data_Alts, h1, h2, h3, e1, e7, e2, e3, hl1, hmx]
    · have e2 : ¬ (1048576 : Int) ≤ a.tag := by omega
      cases e3 : a.binds.any idBad <;> simp only [e3, Bool.false_eq_true, if_true, if_false] at hl1 <;> unfold fn235_l2 <;> simp -implicitDefEqProofs only [code_skip, code_ops, code_seq, code_cond, code_block, ops_cons, ops_cons_g, ops_nil, aOp, opd, upd_at, upd_none, kt_cons, stepVal, stepHeap, aBin, aLen, aInt, aIndexList, isShift, aWanted, aLoad1, aStore, readAt, aField, leaf, acells_agg, cellsSet, code_loopF, gcE, gc_mk, isTrim_cons, gcIds_mk, newIds_nil, newIds_cons, gcMap_at, posOf, ren, renC, renO_box, idsV, idsC, idsO_box, isData_list_none, isData_int, isData_ptr, beqFT, beq_self_eq_true, Option.map_some, List.map_cons, List.map_nil, List.flatMap_cons, List.flatMap_nil, List.length_cons, List.length_nil, List.length_map, List.cons_append, List.nil_append, List.append_nil, List.getElem?_cons_zero, List.getElem?_cons_succ, List.set_cons_zero, List.set_cons_succ, List.take_succ_cons, List.take_zero, List.drop_succ_cons, List.drop_zero, List.take_nil, List.drop_nil, List.all_cons, List.all_nil, List.not_mem_nil, ↓reduceIte, Bool.and_true, Bool.false_and, Bool.or_true, Bool.or_false, Bool.false_eq_true, and_true, not_false_eq_true, decide_true, decide_false, and_self, Nat.le_refl, Nat.add_zero, Nat.zero_add, Nat.reduceEqDiff, Nat.reduceAdd, Nat.reduceLT, Nat.reduceLeDiff, Int.toNat_natCast, Int.natCast_nonneg, roundF_eq, kt_nil, ge_iff_le, gt_iff_lt, encAlt_eq, data_Ints, data_Alts, h1, h2, h3, e1, e2, e3, hl1, hmx]
  refine loopF_find as (fun i a => if altRange op a = true then some (fieldsMax b (as.take i)) else none)
    (fun i => ⟨kt [1, 5, 44, 45, 46] [.ptr (some (0, 0)), .int .i64 (fieldsMax b (as.take i)), .list (as.map encAlt) none, .int .i64 as.length, .int .i64 i], [.box [.int .i64 op, .int .i64 n, .list (binds.map encI) none, .list (kids.map encI) none, .list (as.map encAlt) none]]⟩) _ _ ?_ ?_ ?_
  · intro i hi hq
    rw [hround i hi, if_neg]
    intro hx
    simp [hx] at hq
  · intro i hi r hq
    cases hx : altRange op as[i] with
    | false => simp [hx] at hq
    | true =>
      rw [hround i hi, if_pos hx]
      simp only [hx, if_true, Option.some.injEq] at hq
      rw [hq]
  · have h0 := append_c as.length
    rw [List.take_length]
    unfold fn235_l2
    simp -implicitDefEqProofs only [code_ops, code_seq, code_cond, code_exit, ops_cons, ops_nil, aOp, opd, upd_at, kt_cons, stepVal, aBin, aInt, isShift, gcE, gc_mk, isTrim_cons, gcIds_mk, newIds_nil, newIds_cons, gcMap_at, posOf, ren, renC, renO_box, idsV, idsC, idsO_box, isData_list_none, isData_int, isData_ptr, isData_junk, List.map_cons, List.map_nil, List.flatMap_cons, List.flatMap_nil, List.length_cons, List.length_nil, List.append_nil, List.take_succ_cons, List.take_nil, List.not_mem_nil, ↓reduceIte, Bool.false_eq_true, and_true, not_false_eq_true, decide_false, Nat.le_refl, Nat.zero_add, Nat.reduceEqDiff, Nat.reduceLT, Nat.reduceLeDiff, roundF_eq, kt_nil, data_Ints, data_Alts, h0]
theorem ranges_mid (h259 : L.fns 259 = some fn259) (op n : Int) (binds kids : List Int) (as : List CAlt) (hl : as.length < 2 ^ 30) (hb : binds.length < 2 ^ 30) (ha : ∀ a ∈ as, a.binds.length < 2 ^ 30)
    (low high : Int) (tm : Tmps) (h1 : tm 1 = .ptr (some (0, 0))) (h3 : tm 3 = .int .i64 high) (h4 : tm 4 = .int .i64 low) :
    outOf (endFn [.tmp 2] (aCode L.pure (call L) fn235_t ⟨tm, [.box [.int .i64 op, .int .i64 n, .list (binds.map encI) none, .list (kids.map encI) none, .list (as.map encAlt) none]]⟩)) =
      some (.val (.int .i64 (if ¬ (low ≤ n ∧ n ≤ high) then 4 else if binds.any idBad = true then 4 else if as.any (altRange op) = true then 4 else if tooMany op (fieldsMax binds.length as) kids.length = true then 2 else 0))) := by
  have hp := hL.pure
  have hbt := between_ok hL h259 n low high
  have hl0 := ranges_l0 hL h259 op n binds kids as hb binds.length
  have hl2 := ranges_l2 hL h259 op n binds kids as hl ha binds.length
  have T := ranges_tail (L := L) op n binds kids as (fieldsMax binds.length as)
  have hany := findFrom_any' (altRange op) (fun i => fieldsMax (binds.length : Int) (as.take i)) as 0
  simp only [Int.natCast_zero] at hl0 hl2
  by_cases hr : low ≤ n ∧ n ≤ high
  · rw [decide_eq_true hr] at hbt
    rw [if_neg (fun hx => hx hr)]
    cases e1 : binds.any idBad with
    | true =>
      simp only [e1, if_true] at hl0
      unfold fn235_t
      simp -implicitDefEqProofs only [code_skip, code_ops, code_seq, code_cond, ops_cons, ops_nil, aOp, opd, upd_at, kt_cons, stepVal, aLen, aUn, aLoad1, aField, endFn, aResults, aResult, tupled, code_loopF, gc_mk, isTrim_cons, gcIds_mk, newIds_nil, newIds_cons, gcMap_at, posOf, ren, renC, renO_box, idsV, idsC, idsO_box, wipe_int, wipeR_int, isData_list_none, isData_int, isData_ptr, isDataL_nil, isDataL_cons, List.map_cons, List.map_nil, List.flatMap_cons, List.flatMap_nil, List.length_cons, List.length_nil, List.length_map, List.append_nil, List.getElem?_cons_zero, List.getElem?_cons_succ, List.take_succ_cons, List.take_nil, List.not_mem_nil, ↓reduceIte, Bool.and_true, Bool.not_true, Bool.false_eq_true, and_true, not_false_eq_true, decide_false, and_self, Nat.le_refl, Nat.zero_add, Nat.reduceEqDiff, Nat.reduceLT, Nat.reduceLeDiff, onlyVal, outOf_val, data_Ints, data_Alts, h1, h3, h4, hbt, hl0, doCall_p L hp, hp]
    | false =>
      simp only [e1, Bool.false_eq_true, if_false] at hl0
      cases e2 : as.any (altRange op) with
      | true =>
        rw [e2] at hany
        obtain ⟨r, hr2⟩ := Option.isSome_iff_exists.1 hany
        simp only [hr2, fromFind] at hl2
        unfold fn235_t
        simp -implicitDefEqProofs only [code_skip, code_ops, code_seq, code_cond, ops_cons, ops_nil, aOp, opd, upd_at, kt_cons, stepVal, aLen, aUn, aLoad1, aField, endFn, aResults, aResult, tupled, code_loopF, gc_mk, isTrim_cons, gcIds_mk, newIds_nil, newIds_cons, gcMap_at, posOf, ren, renC, renO_box, idsV, idsC, idsO_box, wipe_int, wipeR_int, isData_list_none, isData_int, isData_ptr, isDataL_nil, isDataL_cons, List.map_cons, List.map_nil, List.flatMap_cons, List.flatMap_nil, List.length_cons, List.length_nil, List.length_map, List.append_nil, List.getElem?_cons_zero, List.getElem?_cons_succ, List.take_succ_cons, List.take_nil, List.not_mem_nil, ↓reduceIte, Bool.and_true, Bool.not_true, Bool.false_eq_true, and_true, not_false_eq_true, decide_false, and_self, Nat.le_refl, Nat.zero_add, Nat.reduceEqDiff, Nat.reduceLT, Nat.reduceLeDiff, kt_nil, onlyVal, outOf_val, data_Ints, data_Alts, h1, h3, h4, hbt, hl0, hl2, doCall_p L hp, hp]
      | false =>
        rw [e2] at hany
        have hn : findFrom (fun i a => if altRange op a = true then some (fieldsMax (binds.length : Int) (as.take i)) else none) as 0 = none := by
          revert hany
          cases findFrom (fun i a => if altRange op a = true then some (fieldsMax (binds.length : Int) (as.take i)) else none) as 0 <;> simp
        simp only [hn, fromFind] at hl2
        unfold fn235_t
        generalize fn235_t2 = t at *
        simp -implicitDefEqProofs only [code_skip, code_ops, code_seq, code_cond, ops_cons, ops_nil, aOp, opd, upd_at, kt_cons, stepVal, aLen, aUn, aLoad1, aField, endFn, aResults, aResult, tupled, code_loopF, gc_mk, isTrim_cons, gcIds_mk, newIds_nil, newIds_cons, gcMap_at, posOf, ren, renC, renO_box, idsV, idsC, idsO_box, wipe_int, isData_list_none, isData_int, isData_ptr, isDataL_nil, isDataL_cons, List.map_cons, List.map_nil, List.flatMap_cons, List.flatMap_nil, List.length_cons, List.length_nil, List.length_map, List.append_nil, List.getElem?_cons_zero, List.getElem?_cons_succ, List.take_succ_cons, List.take_nil, List.not_mem_nil, ↓reduceIte, Bool.and_true, Bool.not_true, Bool.false_eq_true, and_true, not_false_eq_true, decide_false, and_self, Nat.le_refl, Nat.zero_add, Nat.reduceEqDiff, Nat.reduceLT, Nat.reduceLeDiff, kt_nil, onlyVal, data_Ints, data_Alts, h1, h3, h4, hbt, hl0, hl2, doCall_p L hp, hp]
        exact T _ (by simp -implicitDefEqProofs only [kt_cons, ↓reduceIte]) (by simp -implicitDefEqProofs only [kt_cons, ↓reduceIte, Nat.reduceEqDiff])
  · rw [decide_eq_false hr] at hbt
    rw [if_pos hr]
    unfold fn235_t
    simp -implicitDefEqProofs only [code_ops, code_seq, code_cond, code_ret, ops_cons, ops_nil, aOp, opd, upd_at, stepVal, aUn, aLoad1, aField, endFn, aResults, aResult, tupled, wipe_int, wipeR_int, isData_int, isDataL_nil, isDataL_cons, List.map_cons, List.map_nil, List.getElem?_cons_zero, List.getElem?_cons_succ, ↓reduceIte, Bool.and_true, Bool.not_false, and_self, Nat.zero_add, Nat.reduceEqDiff, onlyVal, outOf_val, h1, h3, h4, hbt, doCall_p L hp, hp]
theorem ranges_ok (h259 : L.fns 259 = some fn259) (h235 : L.fns 235 = some fn235) (op n : Int) (binds kids : List Int) (as : List CAlt) (hl : as.length < 2 ^ 30) (hb : binds.length < 2 ^ 30) (ha : ∀ a ∈ as, a.binds.length < 2 ^ 30) (h : Heap) :
    pcall L 235 [.agg [.int .i64 op, .int .i64 n, .list (binds.map encI) none, .list (kids.map encI) none, .list (as.map encAlt) none]] h = some (.val (.int .i64 (rangesErr op n binds kids.length as)), h) := by
  refine pcall_fn hL h235 rfl ?_ h
  have T := ranges_mid hL h259 op n binds kids as hl hb ha
  unfold fn235 rangesErr lowHigh
  generalize fn235_t = t at *
  by_cases h1 : op = 1
  · subst h1; simp -implicitDefEqProofs only [code_ops, code_seq, code_cond, code_block, ops_cons, ops_nil, aOp, opd, upd_at, initTm_at, stepVal, aBin, aInt, isShift, aLoad1, aField, acells_agg, endFn, aResults, aResult, tupled, beq_self_eq_true, Option.getD_some, List.length_nil, List.nil_append, List.getElem?_cons_zero, ↓reduceIte, Bool.false_eq_true, Nat.add_zero, Nat.reduceEqDiff, Int.reduceNeg]; exact T _ _ _ (by simp -implicitDefEqProofs only [upd_at, ↓reduceIte, Nat.reduceEqDiff, Int.reduceNeg]) (by simp -implicitDefEqProofs only [upd_at, ↓reduceIte, Int.reduceNeg]) (by simp -implicitDefEqProofs only [upd_at, ↓reduceIte, Nat.reduceEqDiff, Int.reduceNeg])
  by_cases h6 : op = 6
  · subst h6; simp -implicitDefEqProofs only [code_ops, code_seq, code_cond, code_block, ops_cons, ops_nil, aOp, opd, upd_at, initTm_at, stepVal, aBin, aInt, isShift, aLoad1, aField, acells_agg, endFn, aResults, aResult, tupled, beq_self_eq_true, Option.getD_some, List.length_nil, List.nil_append, List.getElem?_cons_zero, ↓reduceIte, Bool.false_eq_true, Nat.add_zero, Nat.reduceEqDiff, Int.reduceEq, Int.reduceBEq, Int.reduceNeg]; exact T _ _ _ (by simp -implicitDefEqProofs only [upd_at, ↓reduceIte, Nat.reduceEqDiff]) (by simp -implicitDefEqProofs only [upd_at, ↓reduceIte]) (by simp -implicitDefEqProofs only [upd_at, ↓reduceIte, Nat.reduceEqDiff])
  by_cases h17 : op = 17
  · subst h17; simp -implicitDefEqProofs only [code_ops, code_seq, code_cond, code_block, ops_cons, ops_nil, aOp, opd, upd_at, initTm_at, stepVal, aBin, aInt, isShift, aLoad1, aField, acells_agg, endFn, aResults, aResult, tupled, beq_self_eq_true, Option.getD_some, List.length_nil, List.nil_append, List.getElem?_cons_zero, ↓reduceIte, Bool.false_eq_true, Nat.add_zero, Nat.reduceEqDiff, Int.reduceEq, Int.reduceBEq, Int.reduceNeg]; exact T _ _ _ (by simp -implicitDefEqProofs only [upd_at, ↓reduceIte, Nat.reduceEqDiff]) (by simp -implicitDefEqProofs only [upd_at, ↓reduceIte]) (by simp -implicitDefEqProofs only [upd_at, ↓reduceIte, Nat.reduceEqDiff])
  by_cases h16 : op = 16
  · subst h16; simp -implicitDefEqProofs only [code_ops, code_seq, code_cond, code_block, ops_cons, ops_nil, aOp, opd, upd_at, initTm_at, stepVal, aBin, aInt, isShift, aLoad1, aField, acells_agg, endFn, aResults, aResult, tupled, beq_self_eq_true, Option.getD_some, List.length_nil, List.nil_append, List.getElem?_cons_zero, ↓reduceIte, Bool.false_eq_true, Nat.add_zero, Nat.reduceEqDiff, Int.reduceEq, Int.reduceBEq, Int.reduceNeg]; exact T _ _ _ (by simp -implicitDefEqProofs only [upd_at, ↓reduceIte, Nat.reduceEqDiff]) (by simp -implicitDefEqProofs only [upd_at, ↓reduceIte]) (by simp -implicitDefEqProofs only [upd_at, ↓reduceIte, Nat.reduceEqDiff])
  have g1 : (op == 1) = false := by simpa using h1
  have g6 : (op == 6) = false := by simpa using h6
  have g17 : (op == 17) = false := by simpa using h17
  have g16 : (op == 16) = false := by simpa using h16
  simp -implicitDefEqProofs only [code_skip, code_ops, code_seq, code_cond, code_block, ops_cons, ops_nil, aOp, opd, upd_at, initTm_at, stepVal, aBin, aInt, isShift, aLoad1, aField, acells_agg, endFn, aResults, aResult, tupled, Option.getD_some, List.length_nil, List.nil_append, List.getElem?_cons_zero, ↓reduceIte, Bool.false_eq_true, Nat.add_zero, Nat.reduceEqDiff, Int.reduceNeg, g1, g6, g17, g16, h1, h6, h17, h16]
  exact T _ _ _ (by simp -implicitDefEqProofs only [upd_at, ↓reduceIte, Nat.reduceEqDiff]) (by simp -implicitDefEqProofs only [upd_at, ↓reduceIte, Nat.reduceEqDiff]) (by simp -implicitDefEqProofs only [upd_at, ↓reduceIte, Nat.reduceEqDiff])
end
end Go.Abs
