/-
  The check of one node. Conditions: none.
-/
import Derived.Test.YtciacognbcgfiaaDoorCoreD
set_option linter.unusedVariables false
set_option linter.unusedSimpArgs false
set_option maxRecDepth 100000
set_option maxHeartbeats 4000000
namespace Go.Abs
def opAt (e : List CExpr) (k : Int) : Int := match e[k.toNat]? with | some x => x.op | none => 0
/-- What the check of a node sees: the kids' operations alone. -/
structure Lab where
  op : Int
  n : Int
  binds : List Int
  kops : List Int
  alts : List CAlt
def labX (e : List CExpr) (x : CExpr) : Lab := ⟨x.op, x.n, x.binds, x.kids.map (opAt e), x.alts⟩
def nodeBad (kops : List Int) (op : Int) (binds : List Int) (i : Nat) : Bool :=
  (op == 5 && !(kops.getD i 0 == 2)) || (op == 9 && decide (0 < (i : Int)) && decide (binds.getD i 0 ≤ binds.getD (i - 1) 0))
def errL (x : Lab) : Int :=
  if shapeOk x.op x.n x.binds.length x.kops.length x.alts = false then 3
  else if rangesErr x.op x.n x.binds x.kops.length x.alts ≠ 0 then rangesErr x.op x.n x.binds x.kops.length x.alts
  else if (findFrom (fun i _ => if nodeBad x.kops x.op x.binds i = true then some () else none) x.binds 0).isSome = true then 3 else 0
def nodeErr (e : List CExpr) (x : CExpr) : Int := errL (labX e x)
/-- The lists of a node are not longer than any machine's. -/
structure NodeFit (x : CExpr) : Prop where
  binds : x.binds.length < 2 ^ 30
  kids : x.kids.length < 2 ^ 30
  alts : x.alts.length < 2 ^ 30
  each : ∀ a ∈ x.alts, a.binds.length < 2 ^ 30
theorem shape_rec {op n : Int} {bl kl : Nat} {as : List CAlt} (h : shapeOk op n bl kl as = true) (h5 : op = 5) : kl = bl + 1 := by
  subst h5
  have e : shapeOk 5 n bl kl as = shapeEnd n bl kl as.length ((bl : Int) + 1, max 1 (bl : Int), false) := rfl
  rw [e] at h
  unfold shapeEnd at h
  simp only [Bool.and_eq_true, beq_iff_eq] at h
  omega
section
variable {L : Lib} (hL : Plain L)
include hL
theorem kid_ok (h194 : L.fns 194 = some fn194) (e : List CExpr) (k : Int) (h0 : 0 ≤ k) (h1 : k.toNat < e.length) (h : Heap) :
    pcall L 194 [.int .i64 k, .vptr [.list (e.map encExpr) none] 0] h = some (.val (encExpr e[k.toNat]), h) := by
  refine pcall_fn hL h194 (data_Expr _) ?_ h
  obtain ⟨m, rfl⟩ : ∃ m : Nat, k = m := ⟨k.toNat, by omega⟩
  have h2 : (e.map encExpr)[m]? = some (encExpr e[m]) := by
    have : m < e.length := by omega
    simp [this]
  have hx : e[(m : Int).toNat] = e[m]'(by omega) := rfl
  rw [hx]
  generalize e[m]'(by omega) = x at *
  unfold fn194
  simp -implicitDefEqProofs only [code_ops, code_seq, code_ret, ops_cons, ops_nil, aOp, opd, upd_at, upd_none, initTm_at, stepVal, stepHeap, aIndexList, aLoad1, aStore, readAt, leaf, acells_agg, cellsSet, endFn, aResults, aResult, tupled, wipeR_agg, wipeC_list, wipeC_int, Option.map_some, Option.getD_some, List.map_cons, List.map_nil, List.length_cons, List.length_nil, List.nil_append, List.append_nil, List.getElem?_cons_zero, List.getElem?_cons_succ, List.set_cons_zero, List.take_succ_cons, List.take_zero, List.drop_succ_cons, List.drop_zero, List.take_nil, List.drop_nil, List.all_cons, List.all_nil, ↓reduceIte, Bool.and_true, and_self, Nat.le_refl, reduceCtorEq, Nat.zero_add, Nat.reduceEqDiff, Nat.reduceAdd, Int.toNat_natCast, Int.natCast_nonneg, outOf_val, encExpr_eq, h2]
theorem node_l0 (h194 : L.fns 194 = some fn194) (e : List CExpr) (op n : Int) (binds kids : List Int) (as : List CAlt) (hb : binds.length < 2 ^ 30) (hk : ∀ k ∈ kids, 0 ≤ k ∧ k.toNat < e.length) (h5 : op = 5 → binds.length < kids.length) :
    loopF L.pure (call L) 1 [1, 2, 17, 18] [4] 0 fn193_l0 ⟨kt [1, 2, 17, 18] [.func 194 [] [.vptr [.list (e.map encExpr) none] 0], .ptr (some (0, 0)), .int .i64 binds.length, .int .i64 ((0 : Nat) : Int)], [.box [.int .i64 op, .int .i64 n, .list (binds.map encI) none, .list (kids.map encI) none, .list (as.map encAlt) none]]⟩ =
    some (fromFind (fun _ => ⟨kt [4] [.int .i64 3], [.box [.int .i64 op, .int .i64 n, .list (binds.map encI) none, .list (kids.map encI) none, .list (as.map encAlt) none]]⟩)
      ⟨kt [4] [.junk], [.box [.int .i64 op, .int .i64 n, .list (binds.map encI) none, .list (kids.map encI) none, .list (as.map encAlt) none]]⟩ (findFrom (fun i _ => if nodeBad (kids.map (opAt e)) op binds i = true then some () else none) binds 0)) := by
  have hp := hL.pure
  have hround : ∀ (i : Nat) (hi : i < binds.length), roundF L.pure (call L) 1 [1, 2, 17, 18] [4] fn193_l0 ⟨kt [1, 2, 17, 18] [.func 194 [] [.vptr [.list (e.map encExpr) none] 0], .ptr (some (0, 0)), .int .i64 binds.length, .int .i64 i], [.box [.int .i64 op, .int .i64 n, .list (binds.map encI) none, .list (kids.map encI) none, .list (as.map encAlt) none]]⟩ =
      some (if nodeBad (kids.map (opAt e)) op binds i = true then (.ret, ⟨kt [4] [.int .i64 3], [.box [.int .i64 op, .int .i64 n, .list (binds.map encI) none, .list (kids.map encI) none, .list (as.map encAlt) none]]⟩)
        else (.normal, ⟨kt [1, 2, 17, 18] [.func 194 [] [.vptr [.list (e.map encExpr) none] 0], .ptr (some (0, 0)), .int .i64 binds.length, .int .i64 ((i + 1 : Nat) : Int)], [.box [.int .i64 op, .int .i64 n, .list (binds.map encI) none, .list (kids.map encI) none, .list (as.map encAlt) none]]⟩)) := by
    intro i hi
    obtain ⟨h1, h2, h3⟩ := round_c encI binds hb i hi
    have hdE := data_Exprs e
    by_cases o5 : op = 5
    · subst o5
      have hik : i < kids.length := by have := h5 rfl; omega
      have h4 : (kids.map encI)[i]? = some (encI kids[i]) := by simp [hik]
      obtain ⟨k0, k1⟩ := hk kids[i] (List.getElem_mem hik)
      have hc := kid_ok hL h194 e kids[i] k0 k1
      have ho : (kids.map (opAt e)).getD i 0 = e[kids[i].toNat].op := by
        rw [List.getD_eq_getElem?_getD, List.getElem?_map, List.getElem?_eq_getElem hik, Option.map_some, Option.getD_some]
        unfold opAt
        rw [List.getElem?_eq_getElem k1]
      unfold nodeBad
      rw [ho]
      generalize e[kids[i].toNat] = y at *
      generalize kids[i] = k at *
      cases e2 : (y.op == 2) <;> unfold fn193_l0 <;> simp -implicitDefEqProofs only [code_skip, code_ops, code_draw, code_seq, code_cond, code_block, code_ret, ops_cons, ops_nil, aOp, opd, upd_at, kt_cons, stepVal, aBin, aInt, aIndexList, isShift, aWanted, aLoad1, aField, aPart1, acells_int, gcE, gc_mk, isTrim_cons, gcIds_mk, newIds_nil, newIds_cons, gcMap_at, posOf, ren, renC, renO_box, idsV, idsC, idsO_box, draw_eq, opsH_nil, opsH_cons, isLoud, wipe_int, wipe_vptr, isData_list_none, isData_int, isData_func, isData_vptr, isData_ptr, isDataL_nil, isDataL_cons, beqTF, beqFT, beq_self_eq_true, List.map_cons, List.map_nil, List.flatMap_cons, List.flatMap_nil, List.length_cons, List.length_nil, List.cons_append, List.nil_append, List.append_nil, List.getElem?_cons_zero, List.getElem?_cons_succ, List.take_succ_cons, List.take_nil, List.not_mem_nil, ↓reduceIte, Bool.and_true, Bool.and_false, Bool.false_and, Bool.or_false, Bool.not_true, Bool.not_false, Bool.false_eq_true, and_true, not_false_eq_true, decide_true, decide_false, Nat.le_refl, Nat.add_zero, Nat.zero_add, Nat.reduceEqDiff, Nat.reduceLT, Nat.reduceLeDiff, Int.toNat_natCast, Int.natCast_nonneg, roundF_eq, checksP_nil, drawTo_if, Int.reduceBEq, kt_nil, encI_eq, encExpr_eq, data_Ints, data_Alts, h1, h2, h4, hc, e2, hdE, doCall_p L hp, hp, bne]
    · have e5 : (op == 5) = false := by simpa using o5
      unfold nodeBad
      by_cases o9 : op = 9
      · subst o9
        by_cases hi0 : (0 : Int) < i
        · have h6 : IntKind.i64.wrap ((i : Int) - 1) = ((i - 1 : Nat) : Int) := by rw [wrap64 (by omega) (by omega)]; omega
          have h7 : (binds.map encI)[i - 1]? = some (encI (binds.getD (i - 1) 0)) := by
            have : i - 1 < binds.length := by omega
            simp [this]
          have h8 : (binds.map encI)[i]? = some (encI (binds.getD i 0)) := by simp [hi]
          generalize binds.getD (i - 1) 0 = p at *
          generalize binds.getD i 0 = q at *
          by_cases hpq : q ≤ p <;> unfold fn193_l0 <;> simp -implicitDefEqProofs only [code_skip, code_ops, code_draw, code_seq, code_cond, code_block, code_ret, ops_cons, ops_nil, aOp, opd, upd_at, kt_cons, stepVal, aBin, aInt, aIndexList, isShift, aWanted, aLoad1, aField, acells_int, gcE, gc_mk, isTrim_cons, gcIds_mk, newIds_nil, newIds_cons, gcMap_at, posOf, ren, renC, renO_box, idsV, idsC, idsO_box, draw_eq, opsH_nil, opsH_cons, isLoud, isData_list_none, isData_int, isData_func, isData_vptr, isData_ptr, isDataL_nil, isDataL_cons, beqFT, beq_self_eq_true, List.map_cons, List.map_nil, List.flatMap_cons, List.flatMap_nil, List.length_cons, List.length_nil, List.cons_append, List.nil_append, List.append_nil, List.getElem?_cons_zero, List.getElem?_cons_succ, List.take_succ_cons, List.take_nil, List.not_mem_nil, ↓reduceIte, Bool.and_true, Bool.and_false, Bool.false_and, Bool.or_true, Bool.or_false, Bool.false_eq_true, and_true, not_false_eq_true, decide_true, decide_false, Nat.le_refl, Nat.add_zero, Nat.zero_add, Nat.reduceEqDiff, Nat.reduceLT, Nat.reduceLeDiff, Int.toNat_natCast, Int.natCast_nonneg, roundF_eq, checksP_nil, drawTo_if, Int.reduceBEq, kt_nil, ge_iff_le, gt_iff_lt, encI_eq, data_Ints, data_Alts, h1, h2, h6, h7, h8, hi0, hpq, hdE, doCall_p L hp, hp, bne]
        · unfold fn193_l0
          simp -implicitDefEqProofs only [code_skip, code_ops, code_draw, code_seq, code_cond, code_block, ops_cons, ops_nil, aOp, opd, upd_at, kt_cons, stepVal, aBin, aInt, isShift, aWanted, aLoad1, aField, gc_mk, isTrim_cons, gcIds_mk, newIds_nil, newIds_cons, gcMap_at, posOf, ren, renC, renO_box, idsV, idsC, idsO_box, draw_eq, opsH_nil, opsH_cons, isLoud, isData_list_none, isData_int, isData_func, isData_vptr, isData_ptr, isDataL_nil, isDataL_cons, beqFT, beq_self_eq_true, List.map_cons, List.map_nil, List.flatMap_cons, List.flatMap_nil, List.length_cons, List.length_nil, List.cons_append, List.nil_append, List.append_nil, List.getElem?_cons_zero, List.take_succ_cons, List.take_nil, List.not_mem_nil, ↓reduceIte, Bool.and_true, Bool.and_false, Bool.false_and, Bool.or_false, Bool.false_eq_true, and_true, not_false_eq_true, decide_true, decide_false, Nat.le_refl, Nat.add_zero, Nat.zero_add, Nat.reduceEqDiff, Nat.reduceLT, Nat.reduceLeDiff, roundF_eq, checksP_nil, drawTo_if, Int.reduceBEq, kt_nil, gt_iff_lt, data_Ints, data_Alts, h1, h2, hi0, hdE, doCall_p L hp, hp, bne]
      · have e9 : (op == 9) = false := by simpa using o9
        unfold fn193_l0
        simp -implicitDefEqProofs only [code_skip, code_ops, code_draw, code_seq, code_cond, code_block, ops_cons, ops_nil, aOp, opd, upd_at, kt_cons, stepVal, aBin, aInt, isShift, aWanted, aLoad1, aField, gc_mk, isTrim_cons, gcIds_mk, newIds_nil, newIds_cons, gcMap_at, posOf, ren, renC, renO_box, idsV, idsC, idsO_box, draw_eq, opsH_nil, opsH_cons, isLoud, isData_list_none, isData_int, isData_func, isData_vptr, isData_ptr, isDataL_nil, isDataL_cons, beqFT, beq_self_eq_true, List.map_cons, List.map_nil, List.flatMap_cons, List.flatMap_nil, List.length_cons, List.length_nil, List.cons_append, List.nil_append, List.append_nil, List.getElem?_cons_zero, List.take_succ_cons, List.take_nil, List.not_mem_nil, ↓reduceIte, Bool.and_true, Bool.false_and, Bool.or_false, Bool.false_eq_true, and_true, not_false_eq_true, decide_true, decide_false, Nat.le_refl, Nat.add_zero, Nat.zero_add, Nat.reduceEqDiff, Nat.reduceLT, Nat.reduceLeDiff, roundF_eq, checksP_nil, drawTo_if, kt_nil, data_Ints, data_Alts, h1, h2, e5, e9, hdE, doCall_p L hp, hp, bne]
  refine loopF_find binds (fun i _ => if nodeBad (kids.map (opAt e)) op binds i = true then some () else none)
    (fun i => ⟨kt [1, 2, 17, 18] [.func 194 [] [.vptr [.list (e.map encExpr) none] 0], .ptr (some (0, 0)), .int .i64 binds.length, .int .i64 i], _⟩) _ _ ?_ ?_ ?_
  · intro i hi hq
    rw [hround i hi, if_neg]
    intro hx
    simp [hx] at hq
  · intro i hi r hq
    cases hx : nodeBad (kids.map (opAt e)) op binds i with
    | false => simp [hx] at hq
    | true => rw [hround i hi, if_pos hx]
  · have h0 := append_c binds.length
    have hdE := data_Exprs e
    unfold fn193_l0
    simp -implicitDefEqProofs only [code_ops, code_seq, code_cond, code_exit, ops_cons, ops_nil, aOp, opd, upd_at, kt_cons, stepVal, aBin, aInt, isShift, gcE, gc_mk, isTrim_cons, gcIds_mk, newIds_nil, gcMap_at, posOf, ren, renC, renO_box, idsV, idsC, idsO_box, isData_list_none, isData_int, isData_junk, List.map_cons, List.map_nil, List.flatMap_cons, List.flatMap_nil, List.length_cons, List.length_nil, List.append_nil, List.take_succ_cons, List.take_nil, ↓reduceIte, Bool.false_eq_true, decide_false, Nat.le_refl, Nat.zero_add, Nat.reduceEqDiff, roundF_eq, kt_nil, data_Ints, data_Alts, h0, hdE]
theorem node_ok (h265 : L.fns 265 = some fn265) (h264 : L.fns 264 = some fn264) (h266 : L.fns 266 = some fn266) (h258 : L.fns 258 = some fn258) (h259 : L.fns 259 = some fn259) (h234 : L.fns 234 = some fn234) (h235 : L.fns 235 = some fn235)
    (h194 : L.fns 194 = some fn194) (h193 : L.fns 193 = some fn193) (e : List CExpr) (x : CExpr) (hx : NodeFit x) (hk : ∀ k ∈ x.kids, 0 ≤ k ∧ k.toNat < e.length) (h : Heap) :
    pcall L 193 [encExpr x, .func 194 [] [.vptr [.list (e.map encExpr) none] 0]] h = some (.val (.int .i64 (nodeErr e x)), h) := by
  have hp := hL.pure
  have hs := shape_ok hL h265 h264 h266 h258 h259 h234 x.op x.n x.binds x.kids x.alts hx.alts hx.binds
  have hr := ranges_ok hL h259 h235 x.op x.n x.binds x.kids x.alts hx.alts hx.binds hx.each
  have hdE := data_Exprs e
  refine pcall_fn hL h193 rfl ?_ h
  unfold nodeErr errL labX
  dsimp only
  rw [List.length_map]
  cases e1 : shapeOk x.op x.n x.binds.length x.kids.length x.alts with
  | false =>
    rw [e1] at hs
    unfold fn193
    simp -implicitDefEqProofs only [code_ops, code_seq, code_cond, code_ret, ops_cons, ops_nil, aOp, opd, upd_at, initTm_at, stepVal, aUn, readAt, acells_agg, endFn, aResults, aResult, tupled, wipe_agg, wipeR_int, wipeC_list, wipeC_int, isData_list_none, isData_int, isData_agg, isDataL_nil, isDataL_cons, Option.map_some, Option.getD_some, List.map_cons, List.map_nil, List.length_cons, List.length_nil, List.nil_append, List.getElem?_cons_zero, List.take_succ_cons, List.drop_zero, List.take_nil, ↓reduceIte, Bool.and_true, Bool.not_false, and_self, Nat.le_refl, Nat.zero_add, Nat.reduceEqDiff, Nat.reduceAdd, onlyVal, outOf_val, encExpr_eq, data_Ints, data_Alts, hs, hdE, doCall_p L hp, hp]
  | true =>
    rw [e1] at hs
    have hl := node_l0 hL h194 e x.op x.n x.binds x.kids x.alts hx.binds hk (fun h5 => by have := shape_rec e1 h5; omega)
    simp only [Int.natCast_zero] at hl
    generalize rangesErr x.op x.n x.binds x.kids.length x.alts = r at *
    by_cases hr0 : r = 0
    · subst hr0
      cases e3 : findFrom (fun i _ => if nodeBad (x.kids.map (opAt e)) x.op x.binds i = true then some () else none) x.binds 0 with
      | none =>
        simp only [e3, fromFind] at hl
        unfold fn193
        simp -implicitDefEqProofs only [code_skip, code_ops, code_seq, code_cond, code_ret, ops_cons, ops_nil, aOp, opd, upd_at, initTm_at, stepVal, aBin, aLen, aInt, aUn, isShift, aLoad1, readAt, aField, acells_agg, endFn, aResults, aResult, tupled, code_loopF, gc_mk, isTrim_cons, gcIds_mk, newIds_nil, newIds_cons, gcMap_at, posOf, ren, renC, renO_box, idsV, idsC, idsO_box, wipe_agg, wipeR_int, wipeC_list, wipeC_int, isData_list_none, isData_int, isData_agg, isData_func, isData_vptr, isData_ptr, isDataL_nil, isDataL_cons, beq_self_eq_true, Option.map_some, Option.getD_some, List.map_cons, List.map_nil, List.flatMap_cons, List.flatMap_nil, List.length_cons, List.length_nil, List.length_map, List.nil_append, List.append_nil, List.getElem?_cons_zero, List.getElem?_cons_succ, List.take_succ_cons, List.drop_zero, List.take_nil, List.not_mem_nil, ↓reduceIte, Bool.and_true, Bool.not_true, Bool.false_eq_true, Bool.true_eq_false, and_true, not_true_eq_false, not_false_eq_true, decide_false, and_self, Nat.le_refl, Nat.zero_add, Nat.reduceEqDiff, Nat.reduceAdd, Nat.reduceLT, Nat.reduceLeDiff, ne_eq, Option.isSome_none, onlyVal, outOf_val, encExpr_eq, data_Ints, data_Alts, hs, hr, hl, hdE, doCall_p L hp, hp, bne]
      | some u =>
        simp only [e3, fromFind] at hl
        unfold fn193
        simp -implicitDefEqProofs only [code_skip, code_ops, code_seq, code_cond, ops_cons, ops_nil, aOp, opd, upd_at, initTm_at, kt_cons, stepVal, aBin, aLen, aInt, aUn, isShift, aLoad1, readAt, aField, acells_agg, endFn, aResults, aResult, tupled, code_loopF, gc_mk, isTrim_cons, gcIds_mk, newIds_nil, newIds_cons, gcMap_at, posOf, ren, renC, renO_box, idsV, idsC, idsO_box, wipe_agg, wipeR_int, wipeC_list, wipeC_int, isData_list_none, isData_int, isData_agg, isData_func, isData_vptr, isData_ptr, isDataL_nil, isDataL_cons, beq_self_eq_true, Option.map_some, Option.getD_some, List.map_cons, List.map_nil, List.flatMap_cons, List.flatMap_nil, List.length_cons, List.length_nil, List.length_map, List.nil_append, List.append_nil, List.getElem?_cons_zero, List.getElem?_cons_succ, List.take_succ_cons, List.drop_zero, List.take_nil, List.not_mem_nil, ↓reduceIte, Bool.and_true, Bool.not_true, Bool.false_eq_true, Bool.true_eq_false, and_true, not_true_eq_false, not_false_eq_true, decide_false, and_self, Nat.le_refl, Nat.zero_add, Nat.reduceEqDiff, Nat.reduceAdd, Nat.reduceLT, Nat.reduceLeDiff, ne_eq, Option.isSome_some, onlyVal, outOf_val, encExpr_eq, data_Ints, data_Alts, hs, hr, hl, hdE, doCall_p L hp, hp, bne]
    · have hr1 : (r == 0) = false := by simpa using hr0
      unfold fn193
      simp -implicitDefEqProofs only [code_skip, code_ops, code_seq, code_cond, code_ret, ops_cons, ops_nil, aOp, opd, upd_at, initTm_at, stepVal, aBin, aInt, aUn, isShift, readAt, acells_agg, endFn, aResults, aResult, tupled, wipe_agg, wipeR_int, wipeC_list, wipeC_int, isData_list_none, isData_int, isData_agg, isDataL_nil, isDataL_cons, Option.map_some, Option.getD_some, List.map_cons, List.map_nil, List.length_cons, List.length_nil, List.nil_append, List.getElem?_cons_zero, List.take_succ_cons, List.drop_zero, List.take_nil, ↓reduceIte, Bool.and_true, Bool.not_true, Bool.not_false, Bool.false_eq_true, Bool.true_eq_false, not_false_eq_true, and_self, Nat.le_refl, Nat.zero_add, Nat.reduceEqDiff, Nat.reduceAdd, ne_eq, onlyVal, outOf_val, encExpr_eq, data_Ints, data_Alts, hs, hr, hr0, hr1, hdE, doCall_p L hp, hp, bne]
end
end Go.Abs
