/-
  PARTS OF A PROOF, joined: an abstract machine for quiet code, its evaluation, and what the seat's functions answer on it. Conditions: none.
-/
import Derived.Test.YtciacognbcgfiaaDoorPurA
/-
  The effects of a node itself. Conditions: none.
-/
set_option linter.unusedVariables false
set_option linter.unusedSimpArgs false
set_option maxRecDepth 100000
set_option maxHeartbeats 4000000
namespace Go.Abs
section
variable {L : Lib} (hC : CLib2 L)
include hC
theorem own_ok (h243 : L.fns 243 = some fn243) (h209 : L.fns 209 = some fn209) (h210 : L.fns 210 = some fn210) (h211 : L.fns 211 = some fn211) (h173 : L.fns 173 = some fn173)
    (op n : Int) (binds : List Int) (ks : List CTree) (as : List CAlt) (hkl : ks.length < 2 ^ 30) (hal : as.length < 2 ^ 30) (hbl : (tBinds (kid0 ks)).length < 2 ^ 30) (hk : KidsOk op n ks) (h : Heap) :
    pcall L 173 [encTree (.mk op n binds ks as)] h = some (.val (.int .i64 (ownEff op n ks as)), h) := by
  have hL := hC.plain
  have hp := hL.pure
  have hdK := data_Trees ks
  have hdA := data_Alts as
  have hdB := data_Ints binds
  have hprim := fun hk => prim_ok hC h243 h209 n binds ks as hkl hk
  have hcond := fun hk => cond_ok hC h210 op n binds ks as hk hal
  have hhas := has_ok hC h211 (tBinds (kid0 ks)) hbl n
  refine pcall_fn hL h173 rfl ?_ h
  unfold ownEff
  rw [encTree_eq] at hprim hcond ⊢
  have c0 := tree_cells (kid0 ks)
  by_cases e17 : op = 17
  · subst e17
    unfold fn173
    simp -implicitDefEqProofs only [code_ops, code_seq, code_cond, code_block, code_ret, ops_cons, ops_nil, aOp, opd, upd_at, initTm_at, stepVal, aBin, aInt, isShift, aLoad1, aField, endFn, aResults, aResult, tupled, wipeR_int, beq_self_eq_true, Option.getD_some, List.getElem?_cons_zero, ↓reduceIte, Bool.false_eq_true, reduceCtorEq, Nat.add_zero, Int.cast_ofNat_Int, outOf_val]
  rw [if_neg e17]
  have b17 : (op == 17) = false := by simpa using e17
  by_cases e8 : op = 8
  · subst e8
    have hprim := hprim hk
    unfold fn173
    simp -implicitDefEqProofs only [code_ops, code_seq, code_cond, code_block, code_ret, ops_cons, ops_nil, aOp, opd, upd_at, initTm_at, stepVal, aBin, aInt, isShift, aLoad1, aField, endFn, aResults, aResult, tupled, wipeR_int, wipe_vptr, isData_list_none, isData_int, isData_vptr, isDataL_nil, isDataL_cons, beq_self_eq_true, Option.getD_some, List.map_cons, List.map_nil, List.getElem?_cons_zero, ↓reduceIte, Bool.and_true, Bool.false_eq_true, and_self, reduceCtorEq, Nat.add_zero, Nat.reduceEqDiff, Int.reduceBEq, onlyVal, outOf_val, hprim, hdK, hdA, hdB, doCall_p L hp, hp]
  rw [if_neg e8]
  have b8 : (op == 8) = false := by simpa using e8
  by_cases e3 : op = 3
  · subst e3
    have hk0 : 0 < ks.length := hk.1 (.inr (.inl rfl))
    have hg0 : (ks.map encTree)[0]? = some (encTree (kid0 ks)) := kid_at hk0
    rw [c0] at hg0
    have w : IntKind.i64.wrap ((ks.length : Int) - 1) = ((ks.length - 1 : Nat) : Int) := by rw [wrap64 (by omega) (by omega)]; omega
    rw [if_pos rfl]
    by_cases k2 : tOp (kid0 ks) = 2
    · have d2 : (tOp (kid0 ks) != 2) = false := by simpa using k2
      by_cases kb : (tBinds (kid0 ks)).length + 1 = ks.length
      · have db : (((tBinds (kid0 ks)).length : Int) != ((ks.length - 1 : Nat) : Int)) = false := by simp; omega
        rw [if_neg (by simp [k2, kb])]
        unfold fn173
        simp -implicitDefEqProofs only [code_skip, code_ops, code_draw, code_seq, code_cond, code_block, code_ret, ops_cons, ops_nil, aOp, opd, upd_at, initTm_at, stepVal, aBin, aLen, aInt, aIndexList, isShift, aWanted, aLoad1, aField, acells_vptr, endFn, aResults, aResult, tupled, draw_eq, opsH_nil, opsH_cons, isLoud, wipeR_int, beq_self_eq_true, Option.getD_some, List.length_cons, List.length_nil, List.length_map, List.nil_append, List.getElem?_cons_zero, List.getElem?_cons_succ, ↓reduceIte, Bool.false_eq_true, reduceCtorEq, Nat.add_zero, Nat.zero_add, Nat.reduceEqDiff, Int.reduceToNat, checksP_nil, drawTo_if, Int.reduceBEq, Int.cast_ofNat_Int, outOf_val, Int.le_refl, hg0, d2, db, w, hdK, hdA, hdB]
      · have db : (((tBinds (kid0 ks)).length : Int) != ((ks.length - 1 : Nat) : Int)) = true := by simp; omega
        rw [if_pos (.inr kb)]
        unfold fn173
        simp -implicitDefEqProofs only [code_ops, code_draw, code_seq, code_cond, code_block, code_ret, ops_cons, ops_nil, aOp, opd, upd_at, initTm_at, stepVal, aBin, aLen, aInt, aIndexList, isShift, aWanted, aLoad1, aField, acells_vptr, endFn, aResults, aResult, tupled, draw_eq, opsH_nil, opsH_cons, isLoud, wipeR_int, beq_self_eq_true, Option.getD_some, List.length_cons, List.length_nil, List.length_map, List.nil_append, List.getElem?_cons_zero, List.getElem?_cons_succ, ↓reduceIte, Bool.false_eq_true, reduceCtorEq, Nat.add_zero, Nat.zero_add, Nat.reduceEqDiff, Int.reduceToNat, checksP_nil, drawTo_if, Int.reduceBEq, Int.cast_ofNat_Int, outOf_val, Int.le_refl, hg0, d2, db, w, hdK, hdA, hdB]
    · have d2 : (tOp (kid0 ks) != 2) = true := by simpa using k2
      rw [if_pos (.inl k2)]
      unfold fn173
      simp -implicitDefEqProofs only [code_ops, code_draw, code_seq, code_cond, code_block, code_ret, ops_cons, ops_nil, aOp, opd, upd_at, initTm_at, stepVal, aBin, aInt, aIndexList, isShift, aWanted, aLoad1, aField, acells_vptr, endFn, aResults, aResult, tupled, draw_eq, opsH_nil, opsH_cons, isLoud, wipeR_int, beqTF, beq_self_eq_true, Option.getD_some, List.length_cons, List.length_nil, List.nil_append, List.getElem?_cons_zero, List.getElem?_cons_succ, ↓reduceIte, Bool.false_eq_true, reduceCtorEq, Nat.add_zero, Nat.zero_add, Nat.reduceEqDiff, Int.reduceToNat, checksP_nil, drawTo_if, Int.reduceBEq, Int.cast_ofNat_Int, outOf_val, Int.le_refl, hg0, d2, hdK, hdA, hdB]
  rw [if_neg e3]
  have b3 : (op == 3) = false := by simpa using e3
  by_cases e7 : op = 7
  · subst e7
    have hcond := hcond (hk.1 (.inr (.inr (.inl rfl))))
    rw [if_pos rfl]
    cases hq : condT ks as <;> simp only [hq] at hcond <;> unfold fn173 <;> simp -implicitDefEqProofs only [code_skip, code_ops, code_seq, code_cond, code_block, code_ret, ops_cons, ops_nil, aOp, opd, upd_at, initTm_at, stepVal, aBin, aInt, aUn, isShift, aLoad1, aField, endFn, aResults, aResult, tupled, wipeR_int, wipe_vptr, isData_list_none, isData_int, isData_vptr, isDataL_nil, isDataL_cons, beq_self_eq_true, Option.getD_some, List.map_cons, List.map_nil, List.getElem?_cons_zero, ↓reduceIte, Bool.and_true, Bool.not_true, Bool.not_false, Bool.false_eq_true, and_self, reduceCtorEq, Nat.add_zero, Nat.reduceEqDiff, Int.reduceBEq, Int.cast_ofNat_Int, onlyVal, outOf_val, hcond, hdK, hdA, hdB, doCall_p L hp, hp]
  rw [if_neg e7]
  have b7 : (op == 7) = false := by simpa using e7
  by_cases e10 : op = 10 ∨ op = 11
  · have hk0 : 0 < ks.length := hk.1 (by omega)
    have hg0 : (ks.map encTree)[0]? = some (encTree (kid0 ks)) := kid_at hk0
    rw [c0] at hg0
    rw [if_pos e10]
    by_cases k9 : tOp (kid0 ks) = 9
    · have d9 : (tOp (kid0 ks) != 9) = false := by simpa using k9
      rcases e10 with rfl | rfl
      · cases hq : inI' (tBinds (kid0 ks)) n with
        | true =>
          rw [hq] at hhas
          rw [if_neg (by simp [k9])]
          unfold fn173
          simp -implicitDefEqProofs only [code_skip, code_ops, code_draw, code_seq, code_cond, code_block, code_ret, ops_cons, ops_nil, aOp, opd, upd_at, initTm_at, stepVal, aBin, aInt, aUn, aIndexList, isShift, aWanted, aLoad1, aField, acells_vptr, endFn, aResults, aResult, tupled, draw_eq, opsH_nil, opsH_cons, isLoud, wipe_list, wipe_int, wipeR_int, isData_list_none, isData_int, isDataL_nil, isDataL_cons, beq_self_eq_true, Option.getD_some, List.map_cons, List.map_nil, List.length_cons, List.length_nil, List.nil_append, List.getElem?_cons_zero, List.getElem?_cons_succ, ↓reduceIte, Bool.and_true, Bool.not_true, Bool.false_eq_true, and_self, reduceCtorEq, Nat.add_zero, Nat.zero_add, Nat.reduceEqDiff, Int.reduceToNat, checksP_nil, drawTo_if, Int.reduceBEq, Int.cast_ofNat_Int, onlyVal, outOf_val, data_Ints, Int.le_refl, hg0, d9, hhas, hdK, hdA, hdB, doCall_p L hp, hp]
        | false =>
          rw [hq] at hhas
          rw [if_pos (.inr ⟨rfl, rfl⟩)]
          unfold fn173
          simp -implicitDefEqProofs only [code_skip, code_ops, code_draw, code_seq, code_cond, code_block, code_ret, ops_cons, ops_nil, aOp, opd, upd_at, initTm_at, stepVal, aBin, aInt, aUn, aIndexList, isShift, aWanted, aLoad1, aField, acells_vptr, endFn, aResults, aResult, tupled, draw_eq, opsH_nil, opsH_cons, isLoud, wipe_list, wipe_int, wipeR_int, isData_list_none, isData_int, isDataL_nil, isDataL_cons, beq_self_eq_true, Option.getD_some, List.map_cons, List.map_nil, List.length_cons, List.length_nil, List.nil_append, List.getElem?_cons_zero, List.getElem?_cons_succ, ↓reduceIte, Bool.and_true, Bool.not_false, Bool.false_eq_true, and_self, reduceCtorEq, Nat.add_zero, Nat.zero_add, Nat.reduceEqDiff, Int.reduceToNat, checksP_nil, drawTo_if, Int.reduceBEq, Int.cast_ofNat_Int, onlyVal, outOf_val, data_Ints, Int.le_refl, hg0, d9, hhas, hdK, hdA, hdB, doCall_p L hp, hp]
      · rw [if_neg (by simp [k9])]
        unfold fn173
        simp -implicitDefEqProofs only [code_skip, code_ops, code_draw, code_seq, code_cond, code_block, code_ret, ops_cons, ops_nil, aOp, opd, upd_at, initTm_at, stepVal, aBin, aInt, aIndexList, isShift, aWanted, aLoad1, aField, acells_vptr, endFn, aResults, aResult, tupled, draw_eq, opsH_nil, opsH_cons, isLoud, wipeR_int, beqFT, beq_self_eq_true, Option.getD_some, List.length_cons, List.length_nil, List.nil_append, List.getElem?_cons_zero, List.getElem?_cons_succ, ↓reduceIte, Bool.false_eq_true, reduceCtorEq, Nat.add_zero, Nat.zero_add, Nat.reduceEqDiff, Int.reduceToNat, checksP_nil, drawTo_if, Int.reduceBEq, Int.cast_ofNat_Int, outOf_val, Int.le_refl, hg0, d9, hdK, hdA, hdB, doCall_p L hp, hp]
    · have d9 : (tOp (kid0 ks) != 9) = true := by simpa using k9
      rw [if_pos (.inl k9)]
      rcases e10 with rfl | rfl <;> unfold fn173 <;> simp -implicitDefEqProofs only [code_skip, code_ops, code_draw, code_seq, code_cond, code_block, code_ret, ops_cons, ops_nil, aOp, opd, upd_at, initTm_at, stepVal, aBin, aInt, aIndexList, isShift, aWanted, aLoad1, aField, acells_vptr, endFn, aResults, aResult, tupled, draw_eq, opsH_nil, opsH_cons, isLoud, wipeR_int, beqTF, beq_self_eq_true, Option.getD_some, List.length_cons, List.length_nil, List.nil_append, List.getElem?_cons_zero, List.getElem?_cons_succ, ↓reduceIte, Bool.false_eq_true, reduceCtorEq, Nat.add_zero, Nat.zero_add, Nat.reduceEqDiff, Int.reduceToNat, checksP_nil, drawTo_if, Int.reduceBEq, Int.cast_ofNat_Int, outOf_val, Int.le_refl, hg0, d9, hdK, hdA, hdB, doCall_p L hp, hp]
  rw [if_neg e10]
  have b10 : (op == 10) = false := by simp; omega
  have b11 : (op == 11) = false := by simp; omega
  by_cases e12 : op = 12
  · subst e12
    unfold fn173
    simp -implicitDefEqProofs only [code_ops, code_seq, code_cond, code_block, code_ret, ops_cons, ops_nil, aOp, opd, upd_at, initTm_at, stepVal, aBin, aInt, isShift, aLoad1, aField, endFn, aResults, aResult, tupled, wipeR_int, beq_self_eq_true, Option.getD_some, List.getElem?_cons_zero, ↓reduceIte, Bool.false_eq_true, reduceCtorEq, Nat.add_zero, Nat.reduceEqDiff, Int.reduceBEq, Int.cast_ofNat_Int, outOf_val]
  rw [if_neg e12]
  have b12 : (op == 12) = false := by simpa using e12
  by_cases e13 : op = 13
  · subst e13
    unfold fn173
    simp -implicitDefEqProofs only [code_ops, code_seq, code_cond, code_block, code_ret, ops_cons, ops_nil, aOp, opd, upd_at, initTm_at, stepVal, aBin, aInt, isShift, aLoad1, aField, endFn, aResults, aResult, tupled, wipeR_int, beq_self_eq_true, Option.getD_some, List.getElem?_cons_zero, ↓reduceIte, Bool.false_eq_true, reduceCtorEq, Nat.add_zero, Nat.reduceEqDiff, Int.reduceBEq, Int.cast_ofNat_Int, outOf_val]
  rw [if_neg e13]
  have b13 : (op == 13) = false := by simpa using e13
  unfold fn173
  simp -implicitDefEqProofs only [code_skip, code_ops, code_seq, code_cond, code_block, code_ret, ops_cons, ops_nil, aOp, opd, upd_at, initTm_at, stepVal, aBin, aInt, isShift, aLoad1, aField, endFn, aResults, aResult, tupled, wipeR_int, Option.getD_some, List.getElem?_cons_zero, ↓reduceIte, Bool.false_eq_true, reduceCtorEq, Nat.add_zero, Nat.reduceEqDiff, Int.cast_ofNat_Int, outOf_val, b17, b8, b3, b7, b10, b11, b12, b13]
end
/-- What is kept, is less than 64. -/
theorem prim_lt (n : Int) (ks : List CTree) : primEff n ks < 64 := by
  unfold primEff
  repeat' split
  all_goals omega
theorem own_lt (op n : Int) (ks : List CTree) (as : List CAlt) : ownEff op n ks as < 64 := by
  unfold ownEff
  have := prim_lt n ks
  repeat' split
  all_goals omega
theorem own_lam (n : Int) (ks : List CTree) (as : List CAlt) : ownEff 2 n ks as = 0 := by
  unfold ownEff
  simp
end Go.Abs
/-
  The effects of all nodes, on the machine: the kids of a node as trees. Conditions: none.
-/
set_option linter.unusedVariables false
set_option linter.unusedSimpArgs false
set_option maxRecDepth 100000
set_option maxHeartbeats 4000000
namespace Go.Abs
def exprAt (e : List CExpr) (k : Int) : CExpr := (e[k.toNat]?).getD ⟨0, 0, [], [], []⟩
def leafOf (x : CExpr) : CTree := .mk x.op x.n x.binds [] []
def nodeOf (e : List CExpr) (x : CExpr) : CTree := .mk x.op x.n x.binds (x.kids.map fun k => leafOf (exprAt e k)) x.alts
def kbox (x : CExpr) : AObj := .box [.int .i64 x.op, .int .i64 x.n, .list (x.binds.map encI) none, .list [] (some none), .list [] (some none)]
def ptrI (i : Nat) : AVal := .ptr (some (if i = 0 then 3 else i + 4, 0))
def ptrs (j : Nat) : List AVal := (List.range j).map ptrI
theorem ptrs_len (j : Nat) : (ptrs j).length = j := by simp [ptrs]
theorem ptrs_succ (j : Nat) : ptrs (j + 1) = ptrs j ++ [ptrI j] := by unfold ptrs; rw [List.range_succ, List.map_append]; rfl
theorem ptrs_all (j : Nat) : ((ptrs j).all fun v => decide ((acells v).length = 1)) = true := by
  rw [List.all_eq_true]
  intro v hv
  obtain ⟨i, _, rfl⟩ := List.mem_map.1 hv
  rfl
def tboxK (x : CExpr) (K : AVal) : AObj := .box [.int .i64 x.op, .int .i64 x.n, .list (x.binds.map encI) none, K, .list (x.alts.map encAlt) none]
/-- The heap when j kids are laid. -/
def hp144 (e : List CExpr) (x : CExpr) (o : AObj) (j : Nat) : Heap :=
  match j with
  | 0 => [o, tboxK x (.list (x.kids.map encI) none), tboxK x (.list [] (some none))]
  | j + 1 => [o, tboxK x (.list (x.kids.map encI) none), tboxK x (.list (ptrs (j + 1)) (some (some 4))), kbox (exprAt e (x.kids.getD 0 0)), .tail (j + 1) 1] ++ ((x.kids.take (j + 1)).drop 1).map fun k => kbox (exprAt e k)
def s144 (e : List CExpr) (i : Nat) (x : CExpr) (N : Nat) (o : AObj) (j : Nat) : St :=
  ⟨kt [0, 5, 6, 7, 8, 21, 22, 23, 39, 40, 41] [.list (e.map encExpr) none, .vec 0 N, .int .i64 i, .ptr (some (1, 0)), .ptr (some (2, 0)), .list (e.map encExpr) none, .int .i64 e.length, .int .i64 i, .list (x.kids.map encI) none, .int .i64 x.kids.length, .int .i64 j], hp144 e x o j⟩
def t144 (e : List CExpr) (i : Nat) (x : CExpr) (N : Nat) (o : AObj) : St :=
  ⟨kt [0, 5, 6, 7, 8, 21, 22, 23] [.list (e.map encExpr) none, .vec 0 N, .int .i64 i, .ptr (some (1, 0)), .ptr (some (2, 0)), .list (e.map encExpr) none, .int .i64 e.length, .int .i64 i], hp144 e x o x.kids.length⟩
section
variable {L : Lib}
theorem pur_l0 (e : List CExpr) (i : Nat) (x : CExpr) (hkl : x.kids.length < 2 ^ 29) (hk : ∀ k ∈ x.kids, 0 ≤ k ∧ k.toNat < e.length) (N : Nat) (o : AObj) :
    loopF L.pure (call L) 3 [1000000, 0, 5, 6, 7, 8, 21, 22, 23, 39, 40, 41] [1000000, 0, 5, 6, 7, 8, 21, 22, 23] 2 fn144_l0 (s144 e i x N o 0) = some (.normal, t144 e i x N o) := by
  refine loopF_count (s144 e i x N o) x.kids.length ?_ ?_
  · intro j hj
    obtain ⟨h1, h2, h3⟩ := round_c encI x.kids (by omega) j hj
    obtain ⟨k0, k1⟩ := hk x.kids[j] (List.getElem_mem hj)
    have hg : (e.map encExpr)[x.kids[j].toNat]? = some (encExpr (exprAt e x.kids[j])) := by
      unfold exprAt
      rw [List.getElem?_map, List.getElem?_eq_getElem k1]
      rfl
    unfold s144
    rcases Nat.eq_zero_or_pos j with hz | hz
    · have e1 : hp144 e x o (j + 1) = [o, tboxK x (.list (x.kids.map encI) none), tboxK x (.list [.ptr (some (3, 0))] (some (some 4))), kbox (exprAt e x.kids[j]), .tail 1 1] := by
        subst hz
        have : ((x.kids.take 1).drop 1) = [] := List.eq_nil_of_length_eq_zero (by simp)
        have h0 : x.kids.getD 0 0 = x.kids[0] := by rw [List.getD_eq_getElem?_getD, List.getElem?_eq_getElem hj]; rfl
        show [o, tboxK x (.list (x.kids.map encI) none), tboxK x (.list (ptrs 1) (some (some 4))), kbox (exprAt e (x.kids.getD 0 0)), .tail 1 1] ++ ((x.kids.take 1).drop 1).map (fun k => kbox (exprAt e k)) = _
        rw [this, h0]
        rfl
      have e0 : hp144 e x o j = [o, tboxK x (.list (x.kids.map encI) none), tboxK x (.list [] (some none))] := by rw [hz]; rfl
      rw [e0, e1]
      generalize x.kids[j] = k at *
      generalize exprAt e k = y at *
      unfold tboxK kbox
      unfold fn144_l0
      simp -implicitDefEqProofs only [code_skip, code_ops, code_draw, code_seq, code_cond, code_block, ops_cons, ops_nil, aOp, opd, upd_at, upd_none, kt_cons, stepVal, stepHeap, aBin, aInt, aIndexList, isShift, aWanted, aLoad1, aStore, aField, fillA, known, leaf, acells_agg, acells_int, acells_list, acells_ptr, cellsSet, gc_mk, isTrim_cons, draw_eq, opsH_nil, opsH_cons, isLoud, aAppend, wipe_ptr, Option.map_some, List.map_cons, List.map_nil, List.length_cons, List.length_nil, List.cons_append, List.nil_append, List.getElem?_cons_zero, List.getElem?_cons_succ, List.set_cons_zero, List.set_cons_succ, List.take_succ_cons, List.take_zero, List.drop_succ_cons, List.drop_zero, List.all_cons, List.all_nil, List.mem_cons, List.not_mem_nil, ↓reduceIte, Bool.and_true, Bool.false_eq_true, or_false, decide_true, and_self, reduceCtorEq, Nat.add_zero, Nat.zero_add, Nat.reduceEqDiff, Nat.reduceAdd, Nat.reduceSub, Nat.reduceLeDiff, Int.toNat_natCast, Int.natCast_nonneg, List.cons_ne_nil, roundF_eq, maxLen_eq, checksP_cons, checksP_nil, checkP_eq, drawTo_if, forall_const, forall_eq_or_imp, forall_eq, kt_nil, encI_eq, encExpr_eq, h1, h2, h3, k0, k1, hg]
    · obtain ⟨m, rfl⟩ : ∃ m, j = m + 1 := ⟨j - 1, by omega⟩
      have hd : ((x.kids.take (m + 2)).drop 1).map (fun k => kbox (exprAt e k)) = ((x.kids.take (m + 1)).drop 1).map (fun k => kbox (exprAt e k)) ++ [kbox (exprAt e x.kids[m + 1])] := by
        rw [List.take_succ_eq_append_getElem hj, List.drop_append_of_le_length (by simp; omega), List.map_append]
        rfl
      have e1 : hp144 e x o (m + 1 + 1) = [o, tboxK x (.list (x.kids.map encI) none), tboxK x (.list (ptrs (m + 1) ++ [.ptr (some (m + 5, 0))]) (some (some 4))), kbox (exprAt e (x.kids.getD 0 0)), .tail (m + 2) 1] ++ (((x.kids.take (m + 1)).drop 1).map (fun k => kbox (exprAt e k)) ++ [kbox (exprAt e x.kids[m + 1])]) := by
        have hp : ptrs (m + 1 + 1) = ptrs (m + 1) ++ [.ptr (some (m + 5, 0))] := by rw [ptrs_succ]; rfl
        rw [← hp, ← hd]
        rfl
      have e0 : hp144 e x o (m + 1) = [o, tboxK x (.list (x.kids.map encI) none), tboxK x (.list (ptrs (m + 1)) (some (some 4))), kbox (exprAt e (x.kids.getD 0 0)), .tail (m + 1) 1] ++ ((x.kids.take (m + 1)).drop 1).map fun k => kbox (exprAt e k) := rfl
      have hR : (((x.kids.take (m + 1)).drop 1).map fun k => kbox (exprAt e k)).length = m := by simp; omega
      rw [e0, e1]
      generalize (((x.kids.take (m + 1)).drop 1).map fun k => kbox (exprAt e k)) = R at *
      have hid : R.length + 1 + 1 + 1 + 1 + 1 = m + 5 := by omega
      have hpl := ptrs_len (m + 1)
      have hpa := ptrs_all (m + 1)
      have hmm : m + 1 + 1 ≤ 1073741824 := by omega
      generalize ptrs (m + 1) = P at *
      generalize kbox (exprAt e (x.kids.getD 0 0)) = o0 at *
      generalize x.kids[m + 1] = k at *
      generalize exprAt e k = y at *
      unfold tboxK kbox
      unfold fn144_l0
      simp -implicitDefEqProofs only [code_skip, code_ops, code_draw, code_seq, code_cond, code_block, ops_cons, ops_nil, aOp, opd, upd_at, upd_none, kt_cons, stepVal, stepHeap, aBin, aInt, aIndexList, isShift, aWanted, aLoad1, aStore, aField, fillA, known, leaf, acells_agg, acells_int, acells_list, acells_ptr, cellsSet, gc_mk, isTrim_cons, draw_eq, opsH_nil, opsH_cons, isLoud, aAppend, wipe_ptr, Option.map_some, List.map_cons, List.map_nil, List.length_cons, List.length_nil, List.cons_append, List.nil_append, List.getElem?_cons_zero, List.getElem?_cons_succ, List.set_cons_zero, List.set_cons_succ, List.take_succ_cons, List.take_zero, List.drop_succ_cons, List.drop_zero, List.all_cons, List.all_nil, List.mem_cons, List.not_mem_nil, ↓reduceIte, Bool.and_true, Bool.false_eq_true, or_false, decide_true, and_self, reduceCtorEq, Nat.add_zero, Nat.zero_add, Nat.reduceEqDiff, Nat.reduceAdd, Nat.reduceSub, Nat.reduceLeDiff, Int.toNat_natCast, Int.natCast_nonneg, List.cons_ne_nil, roundF_eq, maxLen_eq, checksP_cons, checksP_nil, checkP_eq, drawTo_if, forall_const, forall_eq_or_imp, forall_eq, kt_nil, encI_eq, encExpr_eq, h1, h2, h3, k0, k1, hg, hid, hpl, hpa, hmm]
  · have h0 := append_c x.kids.length
    unfold s144 t144
    generalize hp144 e x o x.kids.length = H at *
    unfold fn144_l0
    simp -implicitDefEqProofs only [code_ops, code_seq, code_cond, code_exit, ops_cons, ops_nil, aOp, opd, upd_at, kt_cons, stepVal, aBin, aInt, isShift, gcE, gc_mk, isTrim_cons, List.map_cons, List.map_nil, List.drop_succ_cons, List.drop_zero, ↓reduceIte, Bool.false_eq_true, decide_true, decide_false, reduceCtorEq, Nat.reduceEqDiff, roundF_eq, h0]
end
theorem view_data {h : Heap} {v : AVal} (hd : isData v = true) (n : Nat) : view1 h n v = wipe v := by cases n <;> rw [view1, if_pos hd]
theorem view_kbox {H : Heap} {id : Nat} {y : CExpr} (hh : H[id]? = some (kbox y)) (n : Nat) : view1 H (n + 1) (.ptr (some (id, 0))) = encTree (leafOf y) := by
  rw [view1, if_neg (by simp [isData])]
  unfold viewStep kbox at *
  dsimp only
  rw [hh]
  dsimp only
  rw [if_pos (by rfl)]
  unfold leafOf
  rw [encTree_eq]
  simp only [List.map_cons, List.map_nil]
  rw [view_data rfl, view_data rfl, view_data (by rw [isData_list_none]; exact data_Ints _), view_data rfl]
  rfl
theorem look_node (e : List CExpr) (x : CExpr) (o : AObj) : lookV (hp144 e x o x.kids.length) (.ptr (some (2, 0))) = encTree (nodeOf e x) := by
  obtain ⟨K, hK, hKl, hv⟩ : ∃ K, (hp144 e x o x.kids.length)[2]? = some (tboxK x K) ∧ leaf K = true ∧ view1 (hp144 e x o x.kids.length) (hp144 e x o x.kids.length).length K = .list ((x.kids.map fun k => leafOf (exprAt e k)).map encTree) none := by
    cases hj : x.kids.length with
    | zero =>
      have hn : x.kids = [] := List.length_eq_zero_iff.1 hj
      refine ⟨.list [] (some none), rfl, rfl, ?_⟩
      rw [view_data rfl, hn]
      rfl
    | succ j =>
      refine ⟨.list (ptrs (j + 1)) (some (some 4)), rfl, rfl, ?_⟩
      have hlen : (hp144 e x o (j + 1)).length = (((x.kids.take (j + 1)).drop 1).map fun k => kbox (exprAt e k)).length + 3 + 2 := by
        show ([_, _, _, _, _] ++ _ : List AObj).length = _
        rw [List.length_append, Nat.add_comm]
        rfl
      have hlen2 : (((x.kids.take (j + 1)).drop 1).map fun k => kbox (exprAt e k)).length = j := by simp; omega
      rw [hlen2] at hlen
      have hpt : ∀ i, i < j + 1 → view1 (hp144 e x o (j + 1)) (j + 3 + 1) (ptrI i) = encTree (leafOf (exprAt e (x.kids.getD i 0))) := by
        intro i hi
        refine view_kbox ?_ _
        show ([o, tboxK x (.list (x.kids.map encI) none), tboxK x (.list (ptrs (j + 1)) (some (some 4))), kbox (exprAt e (x.kids.getD 0 0)), .tail (j + 1) 1] ++ ((x.kids.take (j + 1)).drop 1).map fun k => kbox (exprAt e k))[if i = 0 then 3 else i + 4]? = _
        by_cases h0 : i = 0
        · subst h0
          rfl
        · rw [if_neg h0, List.getElem?_append_right (by simp; omega)]
          obtain ⟨m, rfl⟩ : ∃ m, i = m + 1 := ⟨i - 1, by omega⟩
          have : m + 1 + 4 - [o, tboxK x (.list (x.kids.map encI) none), tboxK x (.list (ptrs (j + 1)) (some (some 4))), kbox (exprAt e (x.kids.getD 0 0)), .tail (j + 1) 1].length = m := by simp
          rw [this, List.getElem?_map, List.getElem?_drop, List.getElem?_take_of_lt (by omega), Nat.add_comm 1 m, List.getD_eq_getElem?_getD, List.getElem?_eq_getElem (by omega)]
          rfl
      have hmap : (ptrs (j + 1)).map (view1 (hp144 e x o (j + 1)) (j + 3 + 1)) = (x.kids.map fun k => leafOf (exprAt e k)).map encTree := by
        refine List.ext_getElem (by rw [List.length_map, ptrs_len]; simp [hj]) fun i h1 h2 => ?_
        have hi : i < j + 1 := by rw [List.length_map, ptrs_len] at h1; exact h1
        have hg : (ptrs (j + 1))[i]'(by rw [ptrs_len]; exact hi) = ptrI i := by simp [ptrs]
        rw [List.getElem_map, hg, hpt i hi, List.getElem_map, List.getElem_map, List.getD_eq_getElem?_getD, List.getElem?_eq_getElem (by omega)]
        rfl
      rw [hlen, view1, if_neg (by simp [isData])]
      unfold viewStep
      dsimp only
      rw [if_neg, if_pos, hmap]
      · refine List.map_congr_left fun v hv => ?_
        obtain ⟨i, hi, rfl⟩ := List.mem_map.1 hv
        rw [hpt i (List.mem_range.1 hi), acells_Tree]
        rfl
      · rw [ptrs, List.range_succ_eq_map, List.map_cons, isDataL]
        simp [ptrI, isData]
  have hpos : ∃ m, (hp144 e x o x.kids.length).length = m + 1 := by
    cases x.kids.length with
    | zero => exact ⟨2, rfl⟩
    | succ j => exact ⟨_, rfl⟩
  unfold lookV viewV
  rw [view1, if_neg (by simp [isData])]
  unfold viewStep
  dsimp only
  rw [hK]
  unfold tboxK
  dsimp only
  rw [if_pos (by rw [List.all_cons, List.all_cons, List.all_cons, List.all_cons, hKl]; rfl)]
  simp only [List.map_cons, List.map_nil]
  rw [hv, view_data rfl, view_data rfl, view_data (by rw [isData_list_none]; exact data_Ints _), view_data (by rw [isData_list_none]; exact data_Alts _)]
  unfold nodeOf
  rw [encTree_eq]
  rfl
end Go.Abs
/-
  The effects of all nodes, on the machine: what the kids add. Conditions: none.
-/
set_option linter.unusedVariables false
set_option linter.unusedSimpArgs false
set_option maxRecDepth 100000
set_option maxHeartbeats 4000000
namespace Go.Abs
def encN (n : Nat) : AVal := .int .i64 n
/-- What a kid adds to a node's effects. -/
def kidEff (e : List CExpr) (acc : List Nat) (x : CExpr) (k : Nat) (v : Nat) (kid : Int) : Nat :=
  if x.op = 2 ∨ (x.op = 5 ∧ k < x.binds.length) then v
  else if x.op = 3 ∧ k = 0 ∧ (exprAt e kid).op = 2 then v ||| acc.getD ((exprAt e kid).kids.getD 0 0).toNat 0
  else v ||| acc.getD kid.toNat 0
def kidsEff (e : List CExpr) (acc : List Nat) (x : CExpr) : List Int → Nat → Nat → Nat
  | [], _, v => v
  | kid :: ks, k, v => kidsEff e acc x ks (k + 1) (kidEff e acc x k v kid)
theorem kidsEff_fold (e : List CExpr) (acc : List Nat) (x : CExpr) : ∀ (ks : List Int) (k v : Nat), foldE (fun k v kid => (.ok (kidEff e acc x k v kid) : Except Unit Nat)) ks k v = .ok (kidsEff e acc x ks k v)
  | [], _, _ => rfl
  | kid :: ks, k, v => kidsEff_fold e acc x ks (k + 1) _
def effOf (e : List CExpr) (acc : List Nat) (x : CExpr) : Nat := kidsEff e acc x x.kids 0 (ownEff x.op x.n (x.kids.map fun k => leafOf (exprAt e k)) x.alts)
def effAll (e : List CExpr) (l : List CExpr) (acc : List Nat) : List Nat := l.foldl (fun acc x => acc ++ [effOf e acc x]) acc
theorem or_small {x y : Nat} (hx : x < 64) (hy : y < 64) : IntKind.i64.wrap ((BitVec.ofInt IntKind.i64.bits (x : Int) ||| BitVec.ofInt IntKind.i64.bits (y : Int)).toNat : Int) = ((x ||| y : Nat) : Int) := by
  have h : x ||| y < 64 := Nat.or_lt_two_pow (n := 6) hx hy
  show IntKind.i64.wrap (((BitVec.ofInt 64 (x : Int) ||| BitVec.ofInt 64 (y : Int) : BitVec 64).toNat : Nat) : Int) = _
  rw [BitVec.ofInt_natCast, BitVec.ofInt_natCast, BitVec.toNat_or, BitVec.toNat_ofNat, BitVec.toNat_ofNat, Nat.mod_eq_of_lt (by omega), Nat.mod_eq_of_lt (by omega), wrap64 (by omega) (by omega)]
def cellsN (acc : List Nat) (v z : Nat) : List AVal := acc.map encN ++ encN v :: List.replicate z (encN 0)
theorem cellsN_len (acc : List Nat) (v z : Nat) : (cellsN acc v z).length = acc.length + 1 + z := by unfold cellsN; simp; omega
theorem cellsN_at (acc : List Nat) (v z : Nat) : (cellsN acc v z)[acc.length]? = some (.int .i64 v) := by
  unfold cellsN
  rw [List.getElem?_append_right (by simp)]
  simp [encN]
theorem cellsN_get (acc : List Nat) (v z m : Nat) (h : m < acc.length) : (cellsN acc v z)[m]? = some (.int .i64 (acc.getD m 0 : Nat)) := by
  unfold cellsN
  rw [List.getElem?_append_left (by simpa using h), List.getElem?_map, List.getD_eq_getElem?_getD, List.getElem?_eq_getElem h]
  rfl
theorem cellsN_put (acc : List Nat) (v w z : Nat) : (cellsN acc v z).take acc.length ++ .int .i64 (w : Int) :: (cellsN acc v z).drop (acc.length + 1) = cellsN acc w z := by
  unfold cellsN
  rw [List.take_append_of_le_length (by simp), List.take_of_length_le (by simp), List.drop_append, List.drop_of_length_le (by simp)]
  simp [encN]
theorem hp_tail (e : List CExpr) (x : CExpr) (j : Nat) : ∃ R, ∀ o, hp144 e x o j = o :: tboxK x (.list (x.kids.map encI) none) :: R := by
  cases j with
  | zero => exact ⟨_, fun o => rfl⟩
  | succ j => exact ⟨_, fun o => rfl⟩
def s144b (e : List CExpr) (i : Nat) (x : CExpr) (N : Nat) (H : List AVal → Heap) (acc : List Nat) (z v k : Nat) : St :=
  ⟨kt [0, 5, 6, 7, 21, 22, 23, 78, 79, 80] [.list (e.map encExpr) none, .vec 0 N, .int .i64 i, .ptr (some (1, 0)), .list (e.map encExpr) none, .int .i64 e.length, .int .i64 i, .list (x.kids.map encI) none, .int .i64 x.kids.length, .int .i64 k], H (cellsN acc v z)⟩
def t144b (e : List CExpr) (i : Nat) (N : Nat) (H : List AVal → Heap) (acc : List Nat) (z v : Nat) : St :=
  ⟨kt [0, 5, 21, 22, 23] [.list (e.map encExpr) none, .vec 0 N, .list (e.map encExpr) none, .int .i64 e.length, .int .i64 i], H (cellsN acc v z)⟩
section
variable {L : Lib}
theorem pur_l1 (e : List CExpr) (i : Nat) (x : CExpr) (b : Nat) (hkl : x.kids.length < 2 ^ 29) (hbl : x.binds.length < 2 ^ 30) (N : Nat) (acc : List Nat) (z : Nat) (hN : acc.length < N) (ha : acc.length = i) (hacc : ∀ a ∈ acc, a < 64)
    (hk : ∀ k ∈ x.kids, 0 ≤ k ∧ k.toNat < i ∧ k.toNat < e.length ∧ ((exprAt e k).op = 2 → ∃ k0, (exprAt e k).kids[0]? = some k0 ∧ 0 ≤ k0 ∧ k0.toNat < i)) (R : Heap) (v0 : Nat) (hv0 : v0 < 64) :
    kidsEff e acc x x.kids 0 v0 < 64 ∧
    loopF L.pure (call L) b [1000000, 0, 5, 6, 7, 21, 22, 23, 78, 79, 80] [1000000, 0, 5, 21, 22, 23] 4 fn144_l1 (s144b e i x N (fun cs => .vec cs 1 :: tboxK x (.list (x.kids.map encI) none) :: R) acc z v0 0) =
      some (.normal, t144b e i N (fun cs => .vec cs 1 :: tboxK x (.list (x.kids.map encI) none) :: R) acc z (kidsEff e acc x x.kids 0 v0)) := by
  have hget64 : ∀ m, acc.getD m 0 < 64 := by
    intro m
    rw [List.getD_eq_getElem?_getD]
    cases h : acc[m]? with
    | none => simp
    | some a => simpa using hacc a (List.mem_of_getElem? h)
  have key := loopF_foldE (pure := L.pure) (call := call L) (b := b) (keep := [1000000, 0, 5, 6, 7, 21, 22, 23, 78, 79, 80]) (fk := [1000000, 0, 5, 21, 22, 23]) (id := 4) (body := fn144_l1) (ε := Unit) x.kids (fun k v kid => .ok (kidEff e acc x k v kid))
    (fun v k => s144b e i x N (fun cs => .vec cs 1 :: tboxK x (.list (x.kids.map encI) none) :: R) acc z v k) (fun v => t144b e i N (fun cs => .vec cs 1 :: tboxK x (.list (x.kids.map encI) none) :: R) acc z v) (fun _ _ => False) (fun v _ => v < 64) v0 hv0 ?_ ?_ ?_
  · have := key.1 _ (kidsEff_fold e acc x x.kids 0 v0)
    exact this
  · intro k hkk v v' hv hq
    injection hq with hq
    subst hq
    obtain ⟨h1, h2, h3⟩ := round_c encI x.kids (by omega) k hkk
    obtain ⟨k0, k1, k2, k3⟩ := hk x.kids[k] (List.getElem_mem hkk)
    have hg : (e.map encExpr)[x.kids[k].toNat]? = some (encExpr (exprAt e x.kids[k])) := by
      unfold exprAt
      rw [List.getElem?_map, List.getElem?_eq_getElem k2]
      rfl
    generalize x.kids[k] = kid at *
    have c1 := cellsN_at acc v z
    have c2 := cellsN_get acc v z kid.toNat (by omega)
    rw [ha] at c1
    have hiN : (i : Int) < N := by omega
    have hkN : kid < N := by omega
    have clen := cellsN_len acc v z
    have cput := fun w => cellsN_put acc v w z
    rw [ha] at cput
    have hle : i + 1 ≤ (cellsN acc v z).length := by omega
    unfold s144b kidEff
    by_cases e2 : x.op = 2
    · have b2 : (x.op == 2) = true := by simpa using e2
      rw [if_pos (.inl e2)]
      refine ⟨?_, hv⟩
      generalize cellsN acc v z = cs at *
      unfold tboxK
      unfold fn144_l1
      simp -implicitDefEqProofs only [code_skip, code_ops, code_seq, code_cond, code_block, ops_cons, ops_nil, aOp, opd, upd_at, kt_cons, stepVal, aBin, aInt, aIndexList, isShift, aLoad1, aField, acells_int, gc_mk, isTrim_cons, List.map_cons, List.map_nil, List.length_cons, List.length_nil, List.getElem?_cons_zero, List.getElem?_cons_succ, List.drop_succ_cons, List.drop_zero, ↓reduceIte, Bool.false_eq_true, decide_true, reduceCtorEq, Nat.add_zero, Nat.zero_add, Nat.reduceEqDiff, Int.toNat_natCast, Int.natCast_nonneg, roundF_eq, encI_eq, h1, h2, h3, b2]
    have b2 : (x.op == 2) = false := by simpa using e2
    by_cases e5 : x.op = 5 ∧ k < x.binds.length
    · have b5 : (x.op == 5) = true := by simpa using e5.1
      have bk : ((k : Int) < x.binds.length) := by omega
      rw [if_pos (.inr e5)]
      refine ⟨?_, hv⟩
      generalize cellsN acc v z = cs at *
      unfold tboxK
      unfold fn144_l1
      simp -implicitDefEqProofs only [code_skip, code_ops, code_seq, code_cond, code_block, ops_cons, ops_cons_g, ops_nil, aOp, opd, upd_at, kt_cons, stepVal, aBin, aLen, aInt, aIndexList, isShift, aWanted, aLoad1, aField, acells_int, gc_mk, isTrim_cons, beq_self_eq_true, List.map_cons, List.map_nil, List.length_cons, List.length_nil, List.length_map, List.getElem?_cons_zero, List.getElem?_cons_succ, List.drop_succ_cons, List.drop_zero, ↓reduceIte, Bool.false_eq_true, decide_true, reduceCtorEq, Nat.add_zero, Nat.zero_add, Nat.reduceEqDiff, Int.toNat_natCast, Int.natCast_nonneg, roundF_eq, encI_eq, h1, h2, h3, b2, b5, bk]
    rw [if_neg (by omega)]
    -- the check of a recursive function's kids, in both ways
    have hb5 : ∀ (q : Bool), (x.op == 5) = q → (q = true → ¬ ((k : Int) < x.binds.length)) := by
      intro q hq hqt
      subst hqt
      have : x.op = 5 := by simpa using hq
      omega
    by_cases e3 : x.op = 3 ∧ k = 0 ∧ (exprAt e kid).op = 2
    · obtain ⟨e3a, e3b, e3c⟩ := e3
      rw [if_pos ⟨e3a, e3b, e3c⟩]
      obtain ⟨q0, q1, q2, q3⟩ := k3 e3c
      have b3 : (x.op == 3) = true := by simpa using e3a
      have b5 : (x.op == 5) = false := by simp; omega
      have bk0 : ((k : Int) == 0) = true := by simp; omega
      have bl : ((exprAt e kid).op == 2) = true := by simpa using e3c
      have hq0 : (exprAt e kid).kids.getD 0 0 = q0 := by rw [List.getD_eq_getElem?_getD, q1]; rfl
      have hqg : ((exprAt e kid).kids.map encI)[0]? = some (.int .i64 q0) := by rw [List.getElem?_map, q1]; rfl
      have c3 := cellsN_get acc v z q0.toNat (by omega)
      have hqN : q0 < N := by omega
      rw [hq0]
      have hor := or_small hv (hget64 q0.toNat)
      have hlt : v ||| acc.getD q0.toNat 0 < 64 := Nat.or_lt_two_pow (n := 6) hv (hget64 q0.toNat)
      refine ⟨?_, hlt⟩
      have cput := cput (v ||| acc.getD q0.toNat 0)
      generalize v ||| acc.getD q0.toNat 0 = w at *
      generalize acc.getD q0.toNat 0 = u at *
      generalize cellsN acc v z = cs at *
      generalize cellsN acc w z = cs' at *
      generalize exprAt e kid = y at *
      unfold tboxK
      unfold fn144_l1
      simp -implicitDefEqProofs only [code_skip, code_ops, code_draw, code_seq, code_cond, code_block, ops_cons, ops_cons_g, ops_nil, aOp, opd, upd_at, upd_none, kt_cons, stepVal, stepHeap, aBin, aInt, aIndexList, isShift, aWanted, aLoad1, aStore, aField, leaf, acells_agg, acells_int, cellsSet, gc_mk, isTrim_cons, draw_eq, opsH_nil, opsH_cons, isLoud, beqFT, beq_self_eq_true, List.map_cons, List.map_nil, List.length_cons, List.length_nil, List.cons_append, List.nil_append, List.append_assoc, List.getElem?_cons_zero, List.getElem?_cons_succ, List.set_cons_zero, List.drop_succ_cons, List.drop_zero, List.all_cons, List.all_nil, ↓reduceIte, Bool.and_true, Bool.false_eq_true, decide_true, and_self, reduceCtorEq, Nat.add_zero, Nat.zero_add, Nat.reduceEqDiff, Nat.reduceAdd, Int.reduceToNat, Int.toNat_natCast, Int.natCast_nonneg, roundF_eq, checksP_nil, drawTo_if, encI_eq, encExpr_eq, Nat.mul_one, Int.le_refl, h1, h2, h3, b2, b5, b3, bk0, bl, k0, hg, hqg, q2, c1, c3, hiN, hqN, hor, hle, cput]
    · rw [if_neg e3]
      have hor := or_small hv (hget64 kid.toNat)
      have hlt : v ||| acc.getD kid.toNat 0 < 64 := Nat.or_lt_two_pow (n := 6) hv (hget64 kid.toNat)
      refine ⟨?_, hlt⟩
      have cput := cput (v ||| acc.getD kid.toNat 0)
      generalize v ||| acc.getD kid.toNat 0 = w at *
      generalize acc.getD kid.toNat 0 = u at *
      generalize cellsN acc v z = cs at *
      generalize cellsN acc w z = cs' at *
      generalize exprAt e kid = y at *
      unfold tboxK
      by_cases e3a : x.op = 3
      · have b3 : (x.op == 3) = true := by simpa using e3a
        have b5 : (x.op == 5) = false := by simp; omega
        by_cases e3b : k = 0
        · have bk0 : ((k : Int) == 0) = true := by simp; omega
          have bl : (y.op == 2) = false := by simp; exact fun h => e3 ⟨e3a, e3b, h⟩
          unfold fn144_l1
          simp -implicitDefEqProofs only [code_skip, code_ops, code_draw, code_seq, code_cond, code_block, ops_cons, ops_cons_g, ops_nil, aOp, opd, upd_at, upd_none, kt_cons, stepVal, stepHeap, aBin, aInt, aIndexList, isShift, aWanted, aLoad1, aStore, aField, leaf, acells_agg, acells_int, cellsSet, gc_mk, isTrim_cons, draw_eq, opsH_nil, opsH_cons, isLoud, beqFT, beq_self_eq_true, List.map_cons, List.map_nil, List.length_cons, List.length_nil, List.cons_append, List.nil_append, List.append_assoc, List.getElem?_cons_zero, List.getElem?_cons_succ, List.set_cons_zero, List.drop_succ_cons, List.drop_zero, List.all_cons, List.all_nil, ↓reduceIte, Bool.and_true, Bool.false_eq_true, decide_true, and_self, reduceCtorEq, Nat.add_zero, Nat.zero_add, Nat.reduceEqDiff, Nat.reduceAdd, Int.toNat_natCast, Int.natCast_nonneg, roundF_eq, checksP_nil, drawTo_if, encI_eq, encExpr_eq, Nat.mul_one, h1, h2, h3, b2, b5, b3, bk0, bl, k0, hg, c1, c2, hiN, hkN, hor, hle, cput]
        · have bk0 : ((k : Int) == 0) = false := by simp; omega
          unfold fn144_l1
          simp -implicitDefEqProofs only [code_skip, code_ops, code_draw, code_seq, code_cond, code_block, ops_cons, ops_cons_g, ops_nil, aOp, opd, upd_at, upd_none, kt_cons, stepVal, stepHeap, aBin, aInt, aIndexList, isShift, aWanted, aLoad1, aStore, aField, leaf, acells_int, cellsSet, gc_mk, isTrim_cons, draw_eq, opsH_nil, opsH_cons, isLoud, beqFT, beq_self_eq_true, List.map_cons, List.map_nil, List.length_cons, List.length_nil, List.cons_append, List.nil_append, List.append_assoc, List.getElem?_cons_zero, List.getElem?_cons_succ, List.set_cons_zero, List.drop_succ_cons, List.drop_zero, List.all_cons, List.all_nil, ↓reduceIte, Bool.and_true, Bool.false_eq_true, decide_true, and_self, reduceCtorEq, Nat.add_zero, Nat.zero_add, Nat.reduceEqDiff, Int.toNat_natCast, Int.natCast_nonneg, roundF_eq, checksP_nil, drawTo_if, encI_eq, Nat.mul_one, h1, h2, h3, b2, b5, b3, bk0, k0, hg, c1, c2, hiN, hkN, hor, hle, cput]
      · have b3 : (x.op == 3) = false := by simpa using e3a
        cases b5 : x.op == 5 with
        | false =>
          unfold fn144_l1
          simp -implicitDefEqProofs only [code_skip, code_ops, code_draw, code_seq, code_cond, code_block, ops_cons, ops_cons_g, ops_nil, aOp, opd, upd_at, upd_none, kt_cons, stepVal, stepHeap, aBin, aInt, aIndexList, isShift, aWanted, aLoad1, aStore, aField, leaf, acells_int, cellsSet, gc_mk, isTrim_cons, draw_eq, opsH_nil, opsH_cons, isLoud, beqFT, List.map_cons, List.map_nil, List.length_cons, List.length_nil, List.cons_append, List.nil_append, List.append_assoc, List.getElem?_cons_zero, List.getElem?_cons_succ, List.set_cons_zero, List.drop_succ_cons, List.drop_zero, List.all_cons, List.all_nil, ↓reduceIte, Bool.and_true, Bool.false_eq_true, decide_true, and_self, reduceCtorEq, Nat.add_zero, Nat.zero_add, Nat.reduceEqDiff, Int.toNat_natCast, Int.natCast_nonneg, roundF_eq, checksP_nil, drawTo_if, encI_eq, Nat.mul_one, h1, h2, h3, b2, b5, b3, k0, hg, c1, c2, hiN, hkN, hor, hle, cput]
        | true =>
          have bk := hb5 true b5 rfl
          unfold fn144_l1
          simp -implicitDefEqProofs only [code_skip, code_ops, code_draw, code_seq, code_cond, code_block, ops_cons, ops_cons_g, ops_nil, aOp, opd, upd_at, upd_none, kt_cons, stepVal, stepHeap, aBin, aLen, aInt, aIndexList, isShift, aWanted, aLoad1, aStore, aField, leaf, acells_int, cellsSet, gc_mk, isTrim_cons, draw_eq, opsH_nil, opsH_cons, isLoud, beqFT, beq_self_eq_true, List.map_cons, List.map_nil, List.length_cons, List.length_nil, List.length_map, List.cons_append, List.nil_append, List.append_assoc, List.getElem?_cons_zero, List.getElem?_cons_succ, List.set_cons_zero, List.drop_succ_cons, List.drop_zero, List.all_cons, List.all_nil, ↓reduceIte, Bool.and_true, Bool.false_eq_true, decide_true, decide_false, and_self, reduceCtorEq, Nat.add_zero, Nat.zero_add, Nat.reduceEqDiff, Int.toNat_natCast, Int.natCast_nonneg, roundF_eq, checksP_nil, drawTo_if, encI_eq, Nat.mul_one, h1, h2, h3, b2, b5, b3, bk, k0, hg, c1, c2, hiN, hkN, hor, hle, cput]
  · intro k hkk v er _ hq
    cases hq
  · intro v hv
    have h0 := append_c x.kids.length
    unfold s144b t144b
    generalize cellsN acc v z = cs at *
    unfold fn144_l1
    simp -implicitDefEqProofs only [code_ops, code_seq, code_cond, code_exit, ops_cons, ops_nil, aOp, opd, upd_at, kt_cons, stepVal, aBin, aInt, isShift, gcE, gc_mk, isTrim_cons, List.map_cons, List.map_nil, List.drop_succ_cons, List.drop_zero, ↓reduceIte, Bool.false_eq_true, decide_true, decide_false, reduceCtorEq, Nat.reduceEqDiff, roundF_eq, h0]
end
end Go.Abs
