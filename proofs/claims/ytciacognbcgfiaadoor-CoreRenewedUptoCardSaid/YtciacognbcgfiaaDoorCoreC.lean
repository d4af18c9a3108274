/-
  The shape of a node. Conditions: none.
-/
import Derived.Test.YtciacognbcgfiaaDoorCoreB
set_option linter.unusedVariables false
set_option linter.unusedSimpArgs false
set_option maxRecDepth 100000
set_option maxHeartbeats 4000000
namespace Go.Abs
def arityOf (n : Int) : Int := if n = 7 ∨ n = 9 then 1 else if n = 11 then 3 else 2
/-- How many kids and identifiers a node has, and whether its number is used. -/
def kbu (op n : Int) (bl kl : Nat) : Option (Int × Int × Bool) :=
  if op = 0 ∨ op = 1 ∨ op = 17 then some (0, 0, true)
  else if op = 2 then some (1, bl, false)
  else if op = 3 then some (max 1 (kl : Int), 0, false)
  else if op = 4 then some (2, 1, false)
  else if op = 5 then some ((bl : Int) + 1, max 1 (bl : Int), false)
  else if op = 6 then some (kl, 0, true)
  else if op = 8 then (if 0 ≤ n ∧ n ≤ 11 then some (arityOf n, 0, true) else none)
  else if op = 9 then some (bl, bl, false)
  else if op = 10 ∨ op = 12 then some (1, 0, true)
  else if op = 11 then some (2, 0, true)
  else if op = 14 ∨ op = 15 then some (kl, 0, true)
  else if op = 16 then some (1, 0, true)
  else none
def shapeEnd (n : Int) (bl kl al : Nat) (r : Int × Int × Bool) : Bool := ((kl : Int) == r.1) && ((bl : Int) == r.2.1) && ((al : Int) == 0) && (r.2.2 || n == 0)
def shapeOk (op n : Int) (bl kl : Nat) (as : List CAlt) : Bool :=
  if op = 7 ∨ op = 13 then altsOk op as kl && ((bl : Int) == 0) && (n == 0)
  else match kbu op n bl kl with
  | none => false
  | some r => shapeEnd n bl kl as.length r
section
variable {L : Lib} (hL : Plain L)
theorem shape_tail (op n : Int) (binds kids : List Int) (as : List CAlt) (k b : Int) (u : Bool) (tm : Tmps) (h1 : tm 1 = .ptr (some (0, 0))) (h3 : tm 3 = .int .i64 k) (h4 : tm 4 = .int .i64 b) (h5 : tm 5 = .bool u) :
    outOf (endFn [.tmp 2] (aCode L.pure (call L) fn234_t ⟨tm, [.box [.int .i64 op, .int .i64 n, .list (binds.map encI) none, .list (kids.map encI) none, .list (as.map encAlt) none]]⟩)) =
      some (.val (.bool (shapeEnd n binds.length kids.length as.length (k, b, u)))) := by
  unfold shapeEnd
  cases e1 : ((kids.length : Int) == k) with
  | false => unfold fn234_t; simp -implicitDefEqProofs only [code_ops, code_seq, code_ret, ops_cons, ops_cons_g, ops_nil, aOp, opd, upd_at, stepVal, aBin, aLen, aInt, isShift, aWanted, aLoad1, aField, endFn, aResults, aResult, tupled, wipeR_bool, beqFT, List.length_map, List.getElem?_cons_zero, List.getElem?_cons_succ, ↓reduceIte, Bool.false_and, Bool.false_eq_true, Nat.zero_add, Nat.reduceEqDiff, outOf_val, h1, h3, h4, h5, e1]
  | true =>
    cases e2 : ((binds.length : Int) == b) with
    | false => unfold fn234_t; simp -implicitDefEqProofs only [code_ops, code_seq, code_ret, ops_cons, ops_cons_g, ops_nil, aOp, opd, upd_at, stepVal, aBin, aLen, aInt, isShift, aWanted, aLoad1, aField, endFn, aResults, aResult, tupled, wipeR_bool, beqFT, beq_self_eq_true, List.length_map, List.getElem?_cons_zero, List.getElem?_cons_succ, ↓reduceIte, Bool.and_false, Bool.false_and, Bool.false_eq_true, Nat.zero_add, Nat.reduceEqDiff, outOf_val, h1, h3, h4, h5, e1, e2]
    | true =>
      cases e3 : ((as.length : Int) == 0) with
      | false => unfold fn234_t; simp -implicitDefEqProofs only [code_ops, code_seq, code_ret, ops_cons, ops_cons_g, ops_nil, aOp, opd, upd_at, stepVal, aBin, aLen, aInt, isShift, aWanted, aLoad1, aField, endFn, aResults, aResult, tupled, wipeR_bool, beqFT, beq_self_eq_true, List.length_map, List.getElem?_cons_zero, List.getElem?_cons_succ, ↓reduceIte, Bool.and_true, Bool.and_false, Bool.false_and, Bool.false_eq_true, Nat.zero_add, Nat.reduceEqDiff, outOf_val, h1, h3, h4, h5, e1, e2, e3]
      | true => cases u <;> unfold fn234_t <;> simp -implicitDefEqProofs only [code_ops, code_seq, code_ret, ops_cons, ops_cons_g, ops_nil, aOp, opd, upd_at, stepVal, aBin, aLen, aInt, isShift, aWanted, aLoad1, aField, endFn, aResults, aResult, tupled, wipeR_bool, beqTF, beq_self_eq_true, List.length_map, List.getElem?_cons_zero, List.getElem?_cons_succ, ↓reduceIte, Bool.and_true, Bool.true_and, Bool.true_or, Bool.false_or, Bool.false_eq_true, Nat.zero_add, Nat.reduceEqDiff, outOf_val, h1, h3, h4, h5, e1, e2, e3]
include hL
theorem shape_ok (h265 : L.fns 265 = some fn265) (h264 : L.fns 264 = some fn264) (h266 : L.fns 266 = some fn266) (h258 : L.fns 258 = some fn258) (h259 : L.fns 259 = some fn259) (h234 : L.fns 234 = some fn234)
    (op n : Int) (binds kids : List Int) (as : List CAlt) (hl : as.length < 2 ^ 30) (hbl : binds.length < 2 ^ 30) (h : Heap) :
    pcall L 234 [.agg [.int .i64 op, .int .i64 n, .list (binds.map encI) none, .list (kids.map encI) none, .list (as.map encAlt) none]] h = some (.val (.bool (shapeOk op n binds.length kids.length as)), h) := by
  have hp := hL.pure
  refine pcall_fn hL h234 rfl ?_ h
  have hal := alts_ok hL h265 h264 h266 h258 op n binds kids as hl
  have hbt := between_ok hL h259 n 0 11
  have hw : IntKind.i64.wrap ((binds.length : Int) + 1) = (binds.length : Int) + 1 := wrap64 (by omega) (by omega)
  have hm1 := minMax_max 1 (kids.length : Int)
  have hm2 := minMax_max 1 (binds.length : Int)
  have T := shape_tail (L := L) op n binds kids as
  unfold fn234
  generalize fn234_t = t at *
  by_cases h0 : op = 0
  · subst h0; simp -implicitDefEqProofs only [code_skip, code_ops, code_seq, code_cond, code_block, ops_cons, ops_nil, aOp, opd, upd_at, initTm_at, stepVal, aBin, aInt, isShift, aLoad1, aField, acells_agg, endFn, aResults, aResult, tupled, beq_self_eq_true, Option.getD_some, List.length_nil, List.nil_append, List.getElem?_cons_zero, ↓reduceIte, Bool.false_eq_true, Nat.add_zero, Nat.reduceEqDiff, hw, hm1, hm2]; exact T _ _ _ _ (by simp -implicitDefEqProofs only [upd_at, ↓reduceIte, Nat.reduceEqDiff]) (by simp -implicitDefEqProofs only [upd_at, ↓reduceIte, Nat.reduceEqDiff]) (by simp -implicitDefEqProofs only [upd_at, ↓reduceIte, Nat.reduceEqDiff]) (by simp -implicitDefEqProofs only [upd_at, ↓reduceIte])
  by_cases h1 : op = 1
  · subst h1; simp -implicitDefEqProofs only [code_skip, code_ops, code_seq, code_cond, code_block, ops_cons, ops_nil, aOp, opd, upd_at, initTm_at, stepVal, aBin, aInt, isShift, aLoad1, aField, acells_agg, endFn, aResults, aResult, tupled, beq_self_eq_true, Option.getD_some, List.length_nil, List.nil_append, List.getElem?_cons_zero, ↓reduceIte, Bool.false_eq_true, Nat.add_zero, Nat.reduceEqDiff, Int.reduceBEq, hw, hm1, hm2]; exact T _ _ _ _ (by simp -implicitDefEqProofs only [upd_at, ↓reduceIte, Nat.reduceEqDiff]) (by simp -implicitDefEqProofs only [upd_at, ↓reduceIte, Nat.reduceEqDiff]) (by simp -implicitDefEqProofs only [upd_at, ↓reduceIte, Nat.reduceEqDiff]) (by simp -implicitDefEqProofs only [upd_at, ↓reduceIte])
  by_cases h2 : op = 2
  · subst h2; simp -implicitDefEqProofs only [code_ops, code_draw, code_seq, code_cond, code_block, ops_cons, ops_nil, aOp, opd, upd_at, initTm_at, stepVal, aBin, aLen, aInt, isShift, aWanted, aLoad1, aField, acells_agg, endFn, aResults, aResult, tupled, draw_eq, opsH_nil, opsH_cons, isLoud, beq_self_eq_true, Option.getD_some, List.length_nil, List.length_map, List.nil_append, List.getElem?_cons_zero, List.getElem?_cons_succ, ↓reduceIte, Bool.false_eq_true, Nat.add_zero, Nat.zero_add, Nat.reduceEqDiff, checksP_nil, drawTo_if, Int.reduceBEq, hw, hm1, hm2]; exact T _ _ _ _ (by simp -implicitDefEqProofs only [upd_at, ↓reduceIte, Nat.reduceEqDiff]) (by simp -implicitDefEqProofs only [upd_at, ↓reduceIte, Nat.reduceEqDiff]) (by simp -implicitDefEqProofs only [upd_at, ↓reduceIte]) (by simp -implicitDefEqProofs only [upd_at, ↓reduceIte, Nat.reduceEqDiff])
  by_cases h3 : op = 3
  · subst h3; simp -implicitDefEqProofs only [code_ops, code_seq, code_cond, code_block, ops_cons, ops_nil, aOp, opd, upd_at, initTm_at, stepVal, aBin, aLen, aInt, isShift, aLoad1, aField, acells_agg, endFn, aResults, aResult, tupled, beq_self_eq_true, Option.getD_some, List.map_cons, List.map_nil, List.length_nil, List.length_map, List.nil_append, List.getElem?_cons_zero, List.getElem?_cons_succ, ↓reduceIte, Bool.false_eq_true, Nat.add_zero, Nat.zero_add, Nat.reduceEqDiff, Int.reduceBEq, hw, hm1, hm2]; exact T _ _ _ _ (by simp -implicitDefEqProofs only [upd_at, ↓reduceIte, Nat.reduceEqDiff]) (by simp -implicitDefEqProofs only [upd_at, ↓reduceIte]) (by simp -implicitDefEqProofs only [upd_at, ↓reduceIte, Nat.reduceEqDiff]) (by simp -implicitDefEqProofs only [upd_at, ↓reduceIte, Nat.reduceEqDiff])
  by_cases h4 : op = 4
  · subst h4; simp -implicitDefEqProofs only [code_ops, code_seq, code_cond, code_block, ops_cons, ops_nil, aOp, opd, upd_at, initTm_at, stepVal, aBin, aInt, isShift, aLoad1, aField, acells_agg, endFn, aResults, aResult, tupled, beq_self_eq_true, Option.getD_some, List.length_nil, List.nil_append, List.getElem?_cons_zero, ↓reduceIte, Bool.false_eq_true, Nat.add_zero, Nat.reduceEqDiff, Int.reduceBEq, hw, hm1, hm2]; exact T _ _ _ _ (by simp -implicitDefEqProofs only [upd_at, ↓reduceIte, Nat.reduceEqDiff]) (by simp -implicitDefEqProofs only [upd_at, ↓reduceIte, Nat.reduceEqDiff]) (by simp -implicitDefEqProofs only [upd_at, ↓reduceIte]) (by simp -implicitDefEqProofs only [upd_at, ↓reduceIte, Nat.reduceEqDiff])
  by_cases h5 : op = 5
  · subst h5; simp -implicitDefEqProofs only [code_ops, code_draw, code_seq, code_cond, code_block, ops_cons, ops_nil, aOp, opd, upd_at, initTm_at, stepVal, aBin, aLen, aInt, isShift, aWanted, aLoad1, aField, acells_agg, endFn, aResults, aResult, tupled, draw_eq, opsH_nil, opsH_cons, isLoud, beq_self_eq_true, Option.getD_some, List.map_cons, List.map_nil, List.length_nil, List.length_map, List.nil_append, List.getElem?_cons_zero, List.getElem?_cons_succ, ↓reduceIte, Bool.false_eq_true, Nat.add_zero, Nat.zero_add, Nat.reduceEqDiff, checksP_nil, drawTo_if, Int.reduceBEq, hw, hm1, hm2]; exact T _ _ _ _ (by simp -implicitDefEqProofs only [upd_at, ↓reduceIte, Nat.reduceEqDiff]) (by simp -implicitDefEqProofs only [upd_at, ↓reduceIte, Nat.reduceEqDiff]) (by simp -implicitDefEqProofs only [upd_at, ↓reduceIte]) (by simp -implicitDefEqProofs only [upd_at, ↓reduceIte, Nat.reduceEqDiff])
  by_cases h6 : op = 6
  · subst h6; simp -implicitDefEqProofs only [code_ops, code_seq, code_cond, code_block, ops_cons, ops_nil, aOp, opd, upd_at, initTm_at, stepVal, aBin, aLen, aInt, isShift, aLoad1, aField, acells_agg, endFn, aResults, aResult, tupled, beq_self_eq_true, Option.getD_some, List.length_nil, List.length_map, List.nil_append, List.getElem?_cons_zero, List.getElem?_cons_succ, ↓reduceIte, Bool.false_eq_true, Nat.add_zero, Nat.zero_add, Nat.reduceEqDiff, Int.reduceBEq, hw, hm1, hm2]; exact T _ _ _ _ (by simp -implicitDefEqProofs only [upd_at, ↓reduceIte, Nat.reduceEqDiff]) (by simp -implicitDefEqProofs only [upd_at, ↓reduceIte, Nat.reduceEqDiff]) (by simp -implicitDefEqProofs only [upd_at, ↓reduceIte, Nat.reduceEqDiff]) (by simp -implicitDefEqProofs only [upd_at, ↓reduceIte])
  by_cases h7 : op = 7
  · subst h7
    unfold shapeOk
    rw [if_pos (by decide)]
    cases ha : altsOk 7 as kids.length with
    | false => rw [ha] at hal; simp -implicitDefEqProofs only [code_skip, code_ops, code_seq, code_cond, code_block, code_ret, ops_cons, ops_cons_g, ops_nil, aOp, opd, upd_at, initTm_at, stepVal, aBin, aInt, isShift, aWanted, aLoad1, readAt, aField, acells_agg, endFn, aResults, aResult, tupled, wipe_agg, wipeR_bool, wipeC_list, wipeC_int, isData_list_none, isData_int, isData_agg, isDataL_nil, isDataL_cons, beqFT, beq_self_eq_true, Option.map_some, Option.getD_some, List.map_cons, List.map_nil, List.length_cons, List.length_nil, List.nil_append, List.getElem?_cons_zero, List.take_succ_cons, List.drop_zero, List.take_nil, ↓reduceIte, Bool.and_true, Bool.false_and, Bool.false_eq_true, and_self, Nat.le_refl, Nat.add_zero, Nat.zero_add, Nat.reduceEqDiff, Nat.reduceAdd, Int.reduceBEq, onlyVal, outOf_val, data_Ints, data_Alts, hal, doCall_p L hp, hp]
    | true =>
      rw [ha] at hal
      cases hb : ((binds.length : Int) == 0) with
      | false => simp -implicitDefEqProofs only [code_skip, code_ops, code_seq, code_cond, code_block, code_ret, ops_cons, ops_cons_g, ops_nil, aOp, opd, upd_at, initTm_at, stepVal, aBin, aLen, aInt, isShift, aWanted, aLoad1, readAt, aField, acells_agg, endFn, aResults, aResult, tupled, wipe_agg, wipeR_bool, wipeC_list, wipeC_int, isData_list_none, isData_int, isData_agg, isDataL_nil, isDataL_cons, beqFT, beq_self_eq_true, Option.map_some, Option.getD_some, List.map_cons, List.map_nil, List.length_cons, List.length_nil, List.length_map, List.nil_append, List.getElem?_cons_zero, List.getElem?_cons_succ, List.take_succ_cons, List.drop_zero, List.take_nil, ↓reduceIte, Bool.and_true, Bool.and_false, Bool.false_and, Bool.false_eq_true, and_self, Nat.le_refl, Nat.add_zero, Nat.zero_add, Nat.reduceEqDiff, Nat.reduceAdd, Int.reduceBEq, onlyVal, outOf_val, data_Ints, data_Alts, hal, hb, doCall_p L hp, hp]
      | true => simp -implicitDefEqProofs only [code_skip, code_ops, code_seq, code_cond, code_block, code_ret, ops_cons, ops_cons_g, ops_nil, aOp, opd, upd_at, initTm_at, stepVal, aBin, aLen, aInt, isShift, aWanted, aLoad1, readAt, aField, acells_agg, endFn, aResults, aResult, tupled, wipe_agg, wipeR_bool, wipeC_list, wipeC_int, isData_list_none, isData_int, isData_agg, isDataL_nil, isDataL_cons, beq_self_eq_true, Option.map_some, Option.getD_some, List.map_cons, List.map_nil, List.length_cons, List.length_nil, List.length_map, List.nil_append, List.getElem?_cons_zero, List.getElem?_cons_succ, List.take_succ_cons, List.drop_zero, List.take_nil, ↓reduceIte, Bool.and_true, Bool.true_and, Bool.false_eq_true, and_self, Nat.le_refl, Nat.add_zero, Nat.zero_add, Nat.reduceEqDiff, Nat.reduceAdd, Int.reduceBEq, onlyVal, outOf_val, data_Ints, data_Alts, hal, hb, doCall_p L hp, hp]
  by_cases h8 : op = 8
  · subst h8
    by_cases hr : 0 ≤ n ∧ n ≤ 11
    · rw [decide_eq_true hr] at hbt
      obtain ⟨m, rfl⟩ : ∃ m : Nat, n = m := ⟨n.toNat, by omega⟩
      have hi : ((m : Int) < 12) := by omega
      have e : shapeOk 8 m binds.length kids.length as = shapeEnd m binds.length kids.length as.length (arityOf m, 0, true) := by
        unfold shapeOk kbu
        simp only [hr, if_true, show ¬ ((8 : Int) = 7 ∨ (8 : Int) = 13) by decide, show ¬ ((8 : Int) = 0 ∨ (8 : Int) = 1 ∨ (8 : Int) = 17) by decide, if_false, show ¬ (8 : Int) = 2 by decide, show ¬ (8 : Int) = 3 by decide, show ¬ (8 : Int) = 4 by decide, show ¬ (8 : Int) = 5 by decide, show ¬ (8 : Int) = 6 by decide, and_self]
      rw [e]
      have hm : m = 0 ∨ m = 1 ∨ m = 2 ∨ m = 3 ∨ m = 4 ∨ m = 5 ∨ m = 6 ∨ m = 7 ∨ m = 8 ∨ m = 9 ∨ m = 10 ∨ m = 11 := by omega
      have ha : ([.int .i64 2, .int .i64 2, .int .i64 2, .int .i64 2, .int .i64 2, .int .i64 2, .int .i64 2, .int .i64 1, .int .i64 2, .int .i64 1, .int .i64 2, .int .i64 3] : List AVal)[m]? = some (.int .i64 (arityOf m)) := by
        rcases hm with rfl | rfl | rfl | rfl | rfl | rfl | rfl | rfl | rfl | rfl | rfl | rfl <;> rfl
      generalize hR : ([.int .i64 2, .int .i64 2, .int .i64 2, .int .i64 2, .int .i64 2, .int .i64 2, .int .i64 2, .int .i64 1, .int .i64 2, .int .i64 1, .int .i64 2, .int .i64 3] : List AVal) = R at *
      simp -implicitDefEqProofs only [code_skip, code_ops, code_seq, code_cond, code_block, ops_cons, ops_nil, aOp, opd, upd_at, initTm_at, stepVal, aBin, aInt, aUn, isShift, aLoad1, aField, acells_agg, endFn, aResults, aResult, tupled, wipe_int, isData_int, isDataL_nil, isDataL_cons, beq_self_eq_true, Option.getD_some, List.map_cons, List.map_nil, List.length_nil, List.nil_append, List.getElem?_cons_zero, List.getElem?_cons_succ, ↓reduceIte, Bool.and_true, Bool.not_true, Bool.false_eq_true, and_self, Nat.add_zero, Nat.zero_add, Nat.reduceEqDiff, Int.toNat_natCast, Int.natCast_nonneg, aIndexArr, Int.reduceBEq, Int.cast_ofNat_Int, onlyVal, Nat.mul_one, hbt, hi, ha, Nat.mul_one, doCall_p L hp, hp]
      exact T _ _ _ _ (by simp -implicitDefEqProofs only [upd_at, ↓reduceIte, Nat.reduceEqDiff]) (by simp -implicitDefEqProofs only [upd_at, ↓reduceIte, Nat.reduceEqDiff]) (by simp -implicitDefEqProofs only [upd_at, ↓reduceIte, Nat.reduceEqDiff]) (by simp -implicitDefEqProofs only [upd_at, ↓reduceIte])
    · rw [decide_eq_false hr] at hbt
      have e : shapeOk 8 n binds.length kids.length as = false := by
        unfold shapeOk kbu
        simp only [hr, if_true, show ¬ ((8 : Int) = 7 ∨ (8 : Int) = 13) by decide, show ¬ ((8 : Int) = 0 ∨ (8 : Int) = 1 ∨ (8 : Int) = 17) by decide, if_false, show ¬ (8 : Int) = 2 by decide, show ¬ (8 : Int) = 3 by decide, show ¬ (8 : Int) = 4 by decide, show ¬ (8 : Int) = 5 by decide, show ¬ (8 : Int) = 6 by decide]
      rw [e]
      simp -implicitDefEqProofs only [code_ops, code_seq, code_cond, code_block, code_ret, ops_cons, ops_nil, aOp, opd, upd_at, initTm_at, stepVal, aBin, aInt, aUn, isShift, aLoad1, aField, acells_agg, endFn, aResults, aResult, tupled, wipe_int, wipeR_bool, isData_int, isDataL_nil, isDataL_cons, beq_self_eq_true, Option.getD_some, List.map_cons, List.map_nil, List.length_nil, List.nil_append, List.getElem?_cons_zero, List.getElem?_cons_succ, ↓reduceIte, Bool.and_true, Bool.not_false, Bool.false_eq_true, and_self, Nat.add_zero, Nat.zero_add, Nat.reduceEqDiff, Int.reduceBEq, onlyVal, outOf_val, hbt, doCall_p L hp, hp]
  by_cases h9 : op = 9
  · subst h9; simp -implicitDefEqProofs only [code_ops, code_draw, code_seq, code_cond, code_block, ops_cons, ops_nil, aOp, opd, upd_at, initTm_at, stepVal, aBin, aLen, aInt, isShift, aWanted, aLoad1, aField, acells_agg, endFn, aResults, aResult, tupled, draw_eq, opsH_nil, opsH_cons, isLoud, beq_self_eq_true, Option.getD_some, List.length_nil, List.length_map, List.nil_append, List.getElem?_cons_zero, List.getElem?_cons_succ, ↓reduceIte, Bool.false_eq_true, Nat.add_zero, Nat.zero_add, Nat.reduceEqDiff, checksP_nil, drawTo_if, Int.reduceBEq, hw, hm1, hm2]; exact T _ _ _ _ (by simp -implicitDefEqProofs only [upd_at, ↓reduceIte, Nat.reduceEqDiff]) (by simp -implicitDefEqProofs only [upd_at, ↓reduceIte, Nat.reduceEqDiff]) (by simp -implicitDefEqProofs only [upd_at, ↓reduceIte]) (by simp -implicitDefEqProofs only [upd_at, ↓reduceIte, Nat.reduceEqDiff])
  by_cases h10 : op = 10
  · subst h10; simp -implicitDefEqProofs only [code_skip, code_ops, code_seq, code_cond, code_block, ops_cons, ops_nil, aOp, opd, upd_at, initTm_at, stepVal, aBin, aInt, isShift, aLoad1, aField, acells_agg, endFn, aResults, aResult, tupled, beq_self_eq_true, Option.getD_some, List.length_nil, List.nil_append, List.getElem?_cons_zero, ↓reduceIte, Bool.false_eq_true, Nat.add_zero, Nat.reduceEqDiff, Int.reduceBEq, hw, hm1, hm2]; exact T _ _ _ _ (by simp -implicitDefEqProofs only [upd_at, ↓reduceIte, Nat.reduceEqDiff]) (by simp -implicitDefEqProofs only [upd_at, ↓reduceIte, Nat.reduceEqDiff]) (by simp -implicitDefEqProofs only [upd_at, ↓reduceIte, Nat.reduceEqDiff]) (by simp -implicitDefEqProofs only [upd_at, ↓reduceIte])
  by_cases h11 : op = 11
  · subst h11; simp -implicitDefEqProofs only [code_ops, code_seq, code_cond, code_block, ops_cons, ops_nil, aOp, opd, upd_at, initTm_at, stepVal, aBin, aInt, isShift, aLoad1, aField, acells_agg, endFn, aResults, aResult, tupled, beq_self_eq_true, Option.getD_some, List.length_nil, List.nil_append, List.getElem?_cons_zero, ↓reduceIte, Bool.false_eq_true, Nat.add_zero, Nat.reduceEqDiff, Int.reduceBEq, hw, hm1, hm2]; exact T _ _ _ _ (by simp -implicitDefEqProofs only [upd_at, ↓reduceIte, Nat.reduceEqDiff]) (by simp -implicitDefEqProofs only [upd_at, ↓reduceIte, Nat.reduceEqDiff]) (by simp -implicitDefEqProofs only [upd_at, ↓reduceIte, Nat.reduceEqDiff]) (by simp -implicitDefEqProofs only [upd_at, ↓reduceIte])
  by_cases h12 : op = 12
  · subst h12; simp -implicitDefEqProofs only [code_ops, code_seq, code_cond, code_block, ops_cons, ops_nil, aOp, opd, upd_at, initTm_at, stepVal, aBin, aInt, isShift, aLoad1, aField, acells_agg, endFn, aResults, aResult, tupled, beq_self_eq_true, Option.getD_some, List.length_nil, List.nil_append, List.getElem?_cons_zero, ↓reduceIte, Bool.false_eq_true, Nat.add_zero, Nat.reduceEqDiff, Int.reduceBEq, hw, hm1, hm2]; exact T _ _ _ _ (by simp -implicitDefEqProofs only [upd_at, ↓reduceIte, Nat.reduceEqDiff]) (by simp -implicitDefEqProofs only [upd_at, ↓reduceIte, Nat.reduceEqDiff]) (by simp -implicitDefEqProofs only [upd_at, ↓reduceIte, Nat.reduceEqDiff]) (by simp -implicitDefEqProofs only [upd_at, ↓reduceIte])
  by_cases h13 : op = 13
  · subst h13
    unfold shapeOk
    rw [if_pos (by decide)]
    cases ha : altsOk 13 as kids.length with
    | false => rw [ha] at hal; simp -implicitDefEqProofs only [code_ops, code_seq, code_cond, code_block, code_ret, ops_cons, ops_cons_g, ops_nil, aOp, opd, upd_at, initTm_at, stepVal, aBin, aInt, isShift, aWanted, aLoad1, readAt, aField, acells_agg, endFn, aResults, aResult, tupled, wipe_agg, wipeR_bool, wipeC_list, wipeC_int, isData_list_none, isData_int, isData_agg, isDataL_nil, isDataL_cons, beqFT, beq_self_eq_true, Option.map_some, Option.getD_some, List.map_cons, List.map_nil, List.length_cons, List.length_nil, List.nil_append, List.getElem?_cons_zero, List.take_succ_cons, List.drop_zero, List.take_nil, ↓reduceIte, Bool.and_true, Bool.false_and, Bool.false_eq_true, and_self, Nat.le_refl, Nat.add_zero, Nat.zero_add, Nat.reduceEqDiff, Nat.reduceAdd, Int.reduceBEq, onlyVal, outOf_val, data_Ints, data_Alts, hal, doCall_p L hp, hp]
    | true =>
      rw [ha] at hal
      cases hb : ((binds.length : Int) == 0) with
      | false => simp -implicitDefEqProofs only [code_ops, code_seq, code_cond, code_block, code_ret, ops_cons, ops_cons_g, ops_nil, aOp, opd, upd_at, initTm_at, stepVal, aBin, aLen, aInt, isShift, aWanted, aLoad1, readAt, aField, acells_agg, endFn, aResults, aResult, tupled, wipe_agg, wipeR_bool, wipeC_list, wipeC_int, isData_list_none, isData_int, isData_agg, isDataL_nil, isDataL_cons, beqFT, beq_self_eq_true, Option.map_some, Option.getD_some, List.map_cons, List.map_nil, List.length_cons, List.length_nil, List.length_map, List.nil_append, List.getElem?_cons_zero, List.getElem?_cons_succ, List.take_succ_cons, List.drop_zero, List.take_nil, ↓reduceIte, Bool.and_true, Bool.and_false, Bool.false_and, Bool.false_eq_true, and_self, Nat.le_refl, Nat.add_zero, Nat.zero_add, Nat.reduceEqDiff, Nat.reduceAdd, Int.reduceBEq, onlyVal, outOf_val, data_Ints, data_Alts, hal, hb, doCall_p L hp, hp]
      | true => simp -implicitDefEqProofs only [code_ops, code_seq, code_cond, code_block, code_ret, ops_cons, ops_cons_g, ops_nil, aOp, opd, upd_at, initTm_at, stepVal, aBin, aLen, aInt, isShift, aWanted, aLoad1, readAt, aField, acells_agg, endFn, aResults, aResult, tupled, wipe_agg, wipeR_bool, wipeC_list, wipeC_int, isData_list_none, isData_int, isData_agg, isDataL_nil, isDataL_cons, beq_self_eq_true, Option.map_some, Option.getD_some, List.map_cons, List.map_nil, List.length_cons, List.length_nil, List.length_map, List.nil_append, List.getElem?_cons_zero, List.getElem?_cons_succ, List.take_succ_cons, List.drop_zero, List.take_nil, ↓reduceIte, Bool.and_true, Bool.true_and, Bool.false_eq_true, and_self, Nat.le_refl, Nat.add_zero, Nat.zero_add, Nat.reduceEqDiff, Nat.reduceAdd, Int.reduceBEq, onlyVal, outOf_val, data_Ints, data_Alts, hal, hb, doCall_p L hp, hp]
  by_cases h14 : op = 14
  · subst h14; simp -implicitDefEqProofs only [code_skip, code_ops, code_seq, code_cond, code_block, ops_cons, ops_nil, aOp, opd, upd_at, initTm_at, stepVal, aBin, aLen, aInt, isShift, aLoad1, aField, acells_agg, endFn, aResults, aResult, tupled, beq_self_eq_true, Option.getD_some, List.length_nil, List.length_map, List.nil_append, List.getElem?_cons_zero, List.getElem?_cons_succ, ↓reduceIte, Bool.false_eq_true, Nat.add_zero, Nat.zero_add, Nat.reduceEqDiff, Int.reduceBEq, hw, hm1, hm2]; exact T _ _ _ _ (by simp -implicitDefEqProofs only [upd_at, ↓reduceIte, Nat.reduceEqDiff]) (by simp -implicitDefEqProofs only [upd_at, ↓reduceIte, Nat.reduceEqDiff]) (by simp -implicitDefEqProofs only [upd_at, ↓reduceIte, Nat.reduceEqDiff]) (by simp -implicitDefEqProofs only [upd_at, ↓reduceIte])
  by_cases h15 : op = 15
  · subst h15; simp -implicitDefEqProofs only [code_ops, code_seq, code_cond, code_block, ops_cons, ops_nil, aOp, opd, upd_at, initTm_at, stepVal, aBin, aLen, aInt, isShift, aLoad1, aField, acells_agg, endFn, aResults, aResult, tupled, beq_self_eq_true, Option.getD_some, List.length_nil, List.length_map, List.nil_append, List.getElem?_cons_zero, List.getElem?_cons_succ, ↓reduceIte, Bool.false_eq_true, Nat.add_zero, Nat.zero_add, Nat.reduceEqDiff, Int.reduceBEq, hw, hm1, hm2]; exact T _ _ _ _ (by simp -implicitDefEqProofs only [upd_at, ↓reduceIte, Nat.reduceEqDiff]) (by simp -implicitDefEqProofs only [upd_at, ↓reduceIte, Nat.reduceEqDiff]) (by simp -implicitDefEqProofs only [upd_at, ↓reduceIte, Nat.reduceEqDiff]) (by simp -implicitDefEqProofs only [upd_at, ↓reduceIte])
  by_cases h16 : op = 16
  · subst h16; simp -implicitDefEqProofs only [code_ops, code_seq, code_cond, code_block, ops_cons, ops_nil, aOp, opd, upd_at, initTm_at, stepVal, aBin, aInt, isShift, aLoad1, aField, acells_agg, endFn, aResults, aResult, tupled, beq_self_eq_true, Option.getD_some, List.length_nil, List.nil_append, List.getElem?_cons_zero, ↓reduceIte, Bool.false_eq_true, Nat.add_zero, Nat.reduceEqDiff, Int.reduceBEq, hw, hm1, hm2]; exact T _ _ _ _ (by simp -implicitDefEqProofs only [upd_at, ↓reduceIte, Nat.reduceEqDiff]) (by simp -implicitDefEqProofs only [upd_at, ↓reduceIte, Nat.reduceEqDiff]) (by simp -implicitDefEqProofs only [upd_at, ↓reduceIte, Nat.reduceEqDiff]) (by simp -implicitDefEqProofs only [upd_at, ↓reduceIte])
  by_cases h17 : op = 17
  · subst h17; simp -implicitDefEqProofs only [code_ops, code_seq, code_cond, code_block, ops_cons, ops_nil, aOp, opd, upd_at, initTm_at, stepVal, aBin, aInt, isShift, aLoad1, aField, acells_agg, endFn, aResults, aResult, tupled, beq_self_eq_true, Option.getD_some, List.length_nil, List.nil_append, List.getElem?_cons_zero, ↓reduceIte, Bool.false_eq_true, Nat.add_zero, Nat.reduceEqDiff, Int.reduceBEq, hw, hm1, hm2]; exact T _ _ _ _ (by simp -implicitDefEqProofs only [upd_at, ↓reduceIte, Nat.reduceEqDiff]) (by simp -implicitDefEqProofs only [upd_at, ↓reduceIte, Nat.reduceEqDiff]) (by simp -implicitDefEqProofs only [upd_at, ↓reduceIte, Nat.reduceEqDiff]) (by simp -implicitDefEqProofs only [upd_at, ↓reduceIte])
  have e : shapeOk op n binds.length kids.length as = false := by
    unfold shapeOk kbu
    simp only [h0, h1, h2, h3, h4, h5, h6, h7, h8, h9, h10, h11, h12, h13, h14, h15, h16, h17, or_self, if_false]
  rw [e]
  have g0 : (op == 0) = false := by simpa using h0
  have g1 : (op == 1) = false := by simpa using h1
  have g2 : (op == 2) = false := by simpa using h2
  have g3 : (op == 3) = false := by simpa using h3
  have g4 : (op == 4) = false := by simpa using h4
  have g5 : (op == 5) = false := by simpa using h5
  have g6 : (op == 6) = false := by simpa using h6
  have g7 : (op == 7) = false := by simpa using h7
  have g8 : (op == 8) = false := by simpa using h8
  have g9 : (op == 9) = false := by simpa using h9
  have g10 : (op == 10) = false := by simpa using h10
  have g11 : (op == 11) = false := by simpa using h11
  have g12 : (op == 12) = false := by simpa using h12
  have g13 : (op == 13) = false := by simpa using h13
  have g14 : (op == 14) = false := by simpa using h14
  have g15 : (op == 15) = false := by simpa using h15
  have g16 : (op == 16) = false := by simpa using h16
  have g17 : (op == 17) = false := by simpa using h17
  simp -implicitDefEqProofs only [code_ops, code_seq, code_cond, code_block, code_ret, ops_cons, ops_nil, aOp, opd, upd_at, initTm_at, stepVal, aBin, aInt, isShift, aLoad1, aField, acells_agg, endFn, aResults, aResult, tupled, wipeR_bool, Option.getD_some, List.length_nil, List.nil_append, List.getElem?_cons_zero, ↓reduceIte, Bool.false_eq_true, Nat.add_zero, Nat.reduceEqDiff, outOf_val, g0, g1, g2, g3, g4, g5, g6, g7, g8, g9, g10, g11, g12, g13, g14, g15, g16, g17]
end
end Go.Abs
