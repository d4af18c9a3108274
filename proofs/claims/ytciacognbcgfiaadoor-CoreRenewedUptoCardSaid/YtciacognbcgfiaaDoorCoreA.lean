/-
  Small functions over numbers on the abstract machine. Conditions: none.
-/
import Derived.Test.YtciacognbcgfiaaDoorCoreE
import Derived.Test.YtciacognbcgfiaaDoorC
set_option linter.unusedVariables false
set_option linter.unusedSimpArgs false
set_option maxRecDepth 100000
set_option maxHeartbeats 4000000
namespace Go.Abs
/-- Where a number first stands; -1: nowhere. -/
def idxI (l : List Int) (n : Int) : Int := (findFrom (fun i x => if (n == x) = true then some (i : Int) else none) l 0).getD (-1)
def inI' (l : List Int) (n : Int) : Bool := l.any fun x => x == n
theorem idx_from (n : Int) : ∀ (l : List Int) (k : Nat), (∀ r, findFrom (fun i x => if (n == x) = true then some (i : Int) else none) l k = some r → 0 ≤ r) ∧ (findFrom (fun i x => if (n == x) = true then some (i : Int) else none) l k).isSome = inI' l n
  | [], k => ⟨fun r h => by (cases h), rfl⟩
  | x :: xs, k => by
    obtain ⟨h1, h2⟩ := idx_from n xs (k + 1)
    rw [findFrom]
    unfold inI' at h2 ⊢
    rw [List.any_cons]
    by_cases hx : n = x
    · subst hx
      simp only [beq_self_eq_true, if_true]
      exact ⟨fun r h => by injection h with h; omega, rfl⟩
    · have e1 : (n == x) = false := by simpa using hx
      have e2 : (x == n) = false := by simpa using fun h => hx h.symm
      simp only [e1, e2, Bool.false_eq_true, if_false, Bool.false_or]
      exact ⟨h1, h2⟩
theorem idx_sign (l : List Int) (n : Int) : decide (0 ≤ idxI l n) = inI' l n := by
  obtain ⟨h1, h2⟩ := idx_from n l 0
  unfold idxI
  cases hq : findFrom (fun i x => if (n == x) = true then some (i : Int) else none) l 0 with
  | none =>
    rw [hq] at h2
    rw [← h2]
    rfl
  | some r =>
    rw [hq] at h2
    have := h1 r hq
    rw [← h2]
    simpa using this
section
variable {L : Lib} (hL : Plain L)
include hL
theorem between_ok (hf : L.fns 259 = some fn259) (n a b : Int) (h : Heap) : pcall L 259 [.int .i64 n, .int .i64 a, .int .i64 b] h = some (.val (.bool (decide (a ≤ n ∧ n ≤ b))), h) := by
  refine pcall_fn hL hf rfl ?_ h
  unfold fn259
  by_cases h1 : a ≤ n
  · by_cases h2 : n ≤ b
    · simp -implicitDefEqProofs only [code_ops, code_seq, code_ret, ops_cons, ops_cons_g, ops_nil, aOp, opd, upd_at, initTm_at, stepVal, aBin, aInt, isShift, aWanted, endFn, aResults, aResult, tupled, wipeR_bool, beq_self_eq_true, Option.getD_some, List.getElem?_cons_zero, List.getElem?_cons_succ, ↓reduceIte, Bool.false_eq_true, decide_true, and_self, reduceCtorEq, Nat.reduceEqDiff, ge_iff_le, outOf_val, h1, h2]
    · simp -implicitDefEqProofs only [code_ops, code_seq, code_ret, ops_cons, ops_cons_g, ops_nil, aOp, opd, upd_at, initTm_at, stepVal, aBin, aInt, isShift, aWanted, endFn, aResults, aResult, tupled, wipeR_bool, beq_self_eq_true, Option.getD_some, List.getElem?_cons_zero, List.getElem?_cons_succ, ↓reduceIte, Bool.false_eq_true, and_false, decide_true, decide_false, reduceCtorEq, Nat.reduceEqDiff, ge_iff_le, outOf_val, h1, h2]
  · simp -implicitDefEqProofs only [code_ops, code_seq, code_ret, ops_cons, ops_cons_g, ops_nil, aOp, opd, upd_at, initTm_at, stepVal, aBin, aInt, isShift, aWanted, endFn, aResults, aResult, tupled, wipeR_bool, beqFT, Option.getD_some, List.getElem?_cons_zero, List.getElem?_cons_succ, ↓reduceIte, Bool.false_eq_true, false_and, decide_false, reduceCtorEq, Nat.reduceEqDiff, ge_iff_le, outOf_val, h1]
def coreOnly (op : Int) : Bool := op == 2 || op == 5 || op == 12 || op == 13
def flatOnly (op : Int) : Bool := op == 14 || op == 15 || op == 16
theorem coreOnly_ok (hf : L.fns 191 = some fn191) (op : Int) (h : Heap) : pcall L 191 [.int .i64 op] h = some (.val (.bool (coreOnly op)), h) := by
  refine pcall_fn hL hf rfl ?_ h
  unfold fn191 coreOnly
  cases h1 : op == 2 <;> cases h2 : op == 5 <;> cases h3 : op == 12 <;> cases h4 : op == 13 <;> simp -implicitDefEqProofs only [code_ops, code_seq, code_ret, ops_cons, ops_cons_g, ops_nil, aOp, opd, upd_at, initTm_at, stepVal, aBin, aInt, isShift, aWanted, endFn, aResults, aResult, tupled, wipeR_bool, beqTF, beq_self_eq_true, Option.getD_some, List.getElem?_cons_zero, ↓reduceIte, Bool.or_true, Bool.or_false, Bool.false_eq_true, reduceCtorEq, Nat.reduceEqDiff, outOf_val, h1, h2, h3, h4]
theorem flatOnly_ok (hf : L.fns 192 = some fn192) (op : Int) (h : Heap) : pcall L 192 [.int .i64 op] h = some (.val (.bool (flatOnly op)), h) := by
  refine pcall_fn hL hf rfl ?_ h
  unfold fn192 flatOnly
  cases h1 : op == 14 <;> cases h2 : op == 15 <;> cases h3 : op == 16 <;> simp -implicitDefEqProofs only [code_ops, code_seq, code_ret, ops_cons, ops_cons_g, ops_nil, aOp, opd, upd_at, initTm_at, stepVal, aBin, aInt, isShift, aWanted, endFn, aResults, aResult, tupled, wipeR_bool, beqTF, beq_self_eq_true, Option.getD_some, List.getElem?_cons_zero, ↓reduceIte, Bool.or_true, Bool.or_false, Bool.false_eq_true, reduceCtorEq, Nat.reduceEqDiff, outOf_val, h1, h2, h3]
theorem index_ok (hf : L.fns 181 = some fn181) (l : List Int) (hl : l.length < 2 ^ 30) (n : Int) (h : Heap) : pcall L 181 [.list (l.map encI) none, .int .i64 n] h = some (.val (.int .i64 (idxI l n)), h) := by
  have hp := hL.pure
  have hloop : loopF L.pure (call L) 0 [0, 1, 7, 8] [4] 0 fn181_l0 ⟨kt [0, 1, 7, 8] [.list (l.map encI) none, .int .i64 n, .int .i64 l.length, .int .i64 ((0 : Nat) : Int)], []⟩ =
      some (fromFind (fun r => ⟨kt [4] [.int .i64 r], []⟩) ⟨kt [4] [.junk], []⟩ (findFrom (fun i x => if (n == x) = true then some (i : Int) else none) l 0)) := by
    refine loopF_find l (fun i x => if (n == x) = true then some (i : Int) else none) (fun i => ⟨kt [0, 1, 7, 8] [.list (l.map encI) none, .int .i64 n, .int .i64 l.length, .int .i64 i], []⟩) _ _ ?_ ?_ ?_
    · intro i hi hq
      obtain ⟨h1, h2, h3⟩ := round_c encI l hl i hi
      have hq : (n == l[i]) = false := by
        cases hx : n == l[i] with
        | false => rfl
        | true => simp [hx] at hq
      generalize l[i] = a at *
      unfold fn181_l0
      simp -implicitDefEqProofs only [code_skip, code_ops, code_seq, code_cond, code_block, ops_cons, ops_nil, aOp, opd, upd_at, kt_cons, stepVal, aBin, aInt, aIndexList, isShift, aLoad1, acells_int, gc_mk, isTrim_cons, gcIds_mk, newIds_nil, gcMap_at, posOf, ren, renC, renO_gone, idsV, idsC, isData_list_none, isData_int, Option.getD_none, List.map_cons, List.map_nil, List.flatMap_cons, List.flatMap_nil, List.length_cons, List.length_nil, List.append_nil, List.getElem?_nil, List.getElem?_cons_zero, List.take_nil, ↓reduceIte, Bool.false_eq_true, decide_true, decide_false, Nat.le_refl, reduceCtorEq, Nat.zero_add, Nat.reduceEqDiff, Int.toNat_natCast, Int.natCast_nonneg, roundF_eq, kt_nil, encI_eq, data_Ints, h1, h2, h3, hq]
    · intro i hi r hq
      obtain ⟨h1, h2, h3⟩ := round_c encI l hl i hi
      have hx : (n == l[i]) = true := by
        cases hx : n == l[i] with
        | true => rfl
        | false => simp [hx] at hq
      rw [if_pos hx] at hq
      injection hq with hq
      subst hq
      generalize l[i] = a at *
      unfold fn181_l0
      simp -implicitDefEqProofs only [code_skip, code_ops, code_seq, code_cond, code_block, code_ret, ops_cons, ops_nil, aOp, opd, upd_at, kt_cons, stepVal, aBin, aInt, aIndexList, isShift, aLoad1, acells_int, gcE, gc_mk, isTrim_cons, gcIds_mk, newIds_nil, gcMap_at, posOf, ren, renC, renO_gone, idsV, idsC, isData_int, Option.getD_none, List.map_cons, List.map_nil, List.flatMap_cons, List.flatMap_nil, List.length_cons, List.length_nil, List.append_nil, List.getElem?_nil, List.getElem?_cons_zero, List.take_nil, ↓reduceIte, Bool.false_eq_true, decide_true, decide_false, Nat.le_refl, reduceCtorEq, Nat.zero_add, Nat.reduceEqDiff, Int.toNat_natCast, Int.natCast_nonneg, roundF_eq, kt_nil, encI_eq, h1, h2, h3, hx]
    · have h0 := append_c l.length
      unfold fn181_l0
      simp -implicitDefEqProofs only [code_ops, code_seq, code_cond, code_exit, ops_cons, ops_nil, aOp, opd, upd_at, kt_cons, stepVal, aBin, aInt, isShift, gcE, gc_mk, isTrim_cons, gcIds_mk, newIds_nil, gcMap_at, posOf, ren, renC, renO_gone, idsV, idsC, isData_junk, Option.getD_none, List.map_cons, List.map_nil, List.flatMap_cons, List.flatMap_nil, List.length_nil, List.append_nil, List.getElem?_nil, List.take_nil, ↓reduceIte, Bool.false_eq_true, decide_false, Nat.le_refl, reduceCtorEq, Nat.reduceEqDiff, roundF_eq, kt_nil, h0]
  simp only [Int.natCast_zero] at hloop
  unfold idxI
  refine pcall_fn hL hf rfl ?_ h
  unfold fn181
  cases hq : findFrom (fun i x => if (n == x) = true then some (i : Int) else none) l 0 <;> simp only [hq, fromFind] at hloop <;> simp -implicitDefEqProofs only [code_ops, code_seq, code_ret, ops_cons, ops_nil, aOp, opd, upd_at, initTm_at, kt_cons, stepVal, aLen, endFn, aResults, aResult, tupled, code_loopF, gc_mk, isTrim_cons, gcIds_mk, newIds_nil, gcMap_at, posOf, ren, renC, renO_gone, idsV, idsC, wipeR_int, isData_list_none, isData_int, Option.getD_some, Option.getD_none, List.map_cons, List.map_nil, List.flatMap_cons, List.flatMap_nil, List.length_nil, List.length_map, List.append_nil, List.getElem?_nil, List.getElem?_cons_zero, List.getElem?_cons_succ, List.take_nil, ↓reduceIte, Bool.false_eq_true, decide_false, Nat.le_refl, reduceCtorEq, Nat.reduceEqDiff, Int.reduceNeg, outOf_val, data_Ints, hloop]
theorem contains_ok (h181 : L.fns 181 = some fn181) (hf : L.fns 151 = some fn151) (l : List Int) (hl : l.length < 2 ^ 30) (n : Int) (h : Heap) : pcall L 151 [.list (l.map encI) none, .int .i64 n] h = some (.val (.bool (inI' l n)), h) := by
  have hp := hL.pure
  have h1 := index_ok hL h181 l hl n
  have h2 := idx_sign l n
  refine pcall_fn hL hf rfl ?_ h
  unfold fn151
  simp -implicitDefEqProofs only [code_ops, code_seq, code_ret, ops_cons, ops_nil, aOp, opd, upd_at, initTm_at, stepVal, aBin, aInt, isShift, endFn, aResults, aResult, tupled, wipe_list, wipe_int, wipeR_bool, isData_list_none, isData_int, isDataL_nil, isDataL_cons, Option.getD_some, List.map_cons, List.map_nil, List.getElem?_cons_zero, List.getElem?_cons_succ, ↓reduceIte, Bool.and_true, Bool.false_eq_true, and_self, reduceCtorEq, Nat.reduceEqDiff, ge_iff_le, onlyVal, outOf_val, data_Ints, h1, h2, doCall_p L hp, hp]
end
end Go.Abs
