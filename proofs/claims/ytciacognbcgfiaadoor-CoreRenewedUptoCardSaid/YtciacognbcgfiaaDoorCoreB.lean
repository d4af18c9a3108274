/-
  Alternatives, the shape of a node, and the ranges of its numbers. Conditions: none.
-/
import Derived.Test.YtciacognbcgfiaaDoorCoreA
set_option linter.unusedVariables false
set_option linter.unusedSimpArgs false
set_option maxRecDepth 100000
set_option maxHeartbeats 4000000
namespace Go.Abs
def idxC {α : Type} (p : α → Bool) (xs : List α) : Int := match findFrom (fun i a => if p a = true then some i else none) xs 0 with | some i => (i : Nat) | none => -1
theorem findFromC_any {α : Type} (p : α → Bool) : ∀ (xs : List α) (k : Nat), (findFrom (fun i a => if p a = true then some i else none) xs k).isSome = xs.any p
  | [], k => rfl
  | x :: xs, k => by
    rw [findFrom, List.any_cons]
    cases hp : p x
    · simp only [Bool.false_eq_true, if_false, Bool.false_or]
      exact findFromC_any p xs (k + 1)
    · rfl
theorem idxC_any {α : Type} (p : α → Bool) (xs : List α) : decide (0 ≤ idxC p xs) = xs.any p := by
  rw [← findFromC_any p xs 0]
  unfold idxC
  cases findFrom (fun i a => if p a = true then some i else none) xs 0 <;> simp
theorem minMax_min (x y : Int) : aMinMax false [.int .i64 x, .int .i64 y] = some (.int .i64 (min x y)) := by
  simp only [aMinMax, if_true, Bool.false_eq_true, if_false]
  congr 2
  split <;> omega
theorem minMax_max (x y : Int) : aMinMax true [.int .i64 x, .int .i64 y] = some (.int .i64 (max x y)) := by
  simp only [aMinMax, if_true]
  congr 2
  split <;> omega
theorem idx266 {L : Lib} (hL : Plain L) (hf : L.fns 266 = some fn266) (f : AVal) (hd : isData f = true) (hk : ∃ g a c, f = .func g a c) (p : CAlt → Bool) (xs : List CAlt) (hl : xs.length < 2 ^ 30)
    (hg : ∀ a ∈ xs, ∀ h : Heap, (match f with | .func g u c => doCall L.pure (call L) g (u ++ .agg [.int .i64 a.tag, .list (a.binds.map encI) none] :: c) h | _ => none) = some (.val (.bool (p a)), h)) (h : Heap) :
    pcall L 266 [.list (xs.map encAlt) none, f] h = some (.val (.int .i64 (idxC p xs)), h) := by
  have hp := hL.pure
  obtain ⟨g, u, c, rfl⟩ := hk
  dsimp only at hg
  refine pcall_fn hL hf rfl ?_ h
  have hloop := loopF_find (pure := L.pure) (call := call L) (b := 0) (keep := [0, 1, 7, 8]) (fk := [4]) (id := 0) (body := fn266_l0) xs (fun i a => if p a = true then some i else none)
    (fun i => ⟨kt [0, 1, 7, 8] [.list (xs.map encAlt) none, .func g u c, .int .i64 xs.length, .int .i64 i], []⟩) ⟨kt [4] [.junk], []⟩ (fun i => ⟨kt [4] [.int .i64 i], []⟩)
    (by
      intro i hi hq
      have h1 : ((i : Int) < xs.length) := by omega
      have h2 : IntKind.i64.wrap ((i : Int) + 1) = ((i + 1 : Nat) : Int) := by rw [wrap64 (by omega) (by omega)]; rfl
      have h3 : (xs.map encAlt)[i]? = some (encAlt xs[i]) := by simp [hi]
      have h5 := hg xs[i] (List.getElem_mem hi)
      have h6 : p xs[i] = false := by cases hx : p xs[i] <;> simp [hx] at hq ⊢
      generalize xs[i] = a at *
      unfold fn266_l0
      simp -implicitDefEqProofs only [code_skip, code_ops, code_seq, code_cond, code_block, ops_cons, ops_nil, aOp, opd, upd_at, kt_cons, stepVal, aBin, aInt, aIndexList, isShift, readAt, acells_agg, gc_mk, isTrim_cons, gcIds_mk, newIds_nil, gcMap_at, posOf, ren, renC, renO_gone, idsV, idsC, isData_list_none, isData_int, Option.map_some, Option.getD_none, List.map_cons, List.map_nil, List.flatMap_cons, List.flatMap_nil, List.length_cons, List.length_nil, List.cons_append, List.nil_append, List.append_nil, List.append_assoc, List.getElem?_nil, List.take_succ_cons, List.drop_zero, List.take_nil, ↓reduceIte, Bool.false_eq_true, decide_true, decide_false, Nat.le_refl, reduceCtorEq, Nat.zero_add, Nat.reduceEqDiff, Nat.reduceAdd, Int.toNat_natCast, Int.natCast_nonneg, roundF_eq, kt_nil, encAlt_eq, data_Alts, hd, h1, h2, h3, h5, h6, reduceCtorEq])
    (by
      intro i hi r hq
      have h1 : ((i : Int) < xs.length) := by omega
      have h3 : (xs.map encAlt)[i]? = some (encAlt xs[i]) := by simp [hi]
      have h5 := hg xs[i] (List.getElem_mem hi)
      have h6 : p xs[i] = true := by cases hx : p xs[i] <;> simp [hx] at hq ⊢
      have h7 : i = r := by simpa [h6] using hq
      subst h7
      generalize xs[i] = a at *
      unfold fn266_l0
      simp -implicitDefEqProofs only [code_skip, code_ops, code_seq, code_cond, code_block, code_ret, ops_cons, ops_nil, aOp, opd, upd_at, kt_cons, stepVal, aBin, aInt, aIndexList, isShift, readAt, acells_agg, gcE, gc_mk, isTrim_cons, gcIds_mk, newIds_nil, gcMap_at, posOf, ren, renC, renO_gone, idsV, idsC, isData_int, Option.map_some, Option.getD_none, List.map_cons, List.map_nil, List.flatMap_cons, List.flatMap_nil, List.length_cons, List.length_nil, List.cons_append, List.nil_append, List.append_nil, List.append_assoc, List.getElem?_nil, List.take_succ_cons, List.drop_zero, List.take_nil, ↓reduceIte, Bool.false_eq_true, decide_true, decide_false, Nat.le_refl, reduceCtorEq, Nat.zero_add, Nat.reduceEqDiff, Nat.reduceAdd, Int.toNat_natCast, Int.natCast_nonneg, roundF_eq, kt_nil, encAlt_eq, hd, h1, h3, h5, h6, reduceCtorEq])
    (by
      have h0 : ¬ ((xs.length : Int) < xs.length) := by omega
      unfold fn266_l0
      simp -implicitDefEqProofs only [code_ops, code_seq, code_cond, code_exit, ops_cons, ops_nil, aOp, opd, upd_at, kt_cons, stepVal, aBin, aInt, isShift, gcE, gc_mk, isTrim_cons, gcIds_mk, newIds_nil, gcMap_at, posOf, ren, renC, renO_gone, idsV, idsC, isData_junk, Option.getD_none, List.map_cons, List.map_nil, List.flatMap_cons, List.flatMap_nil, List.length_nil, List.append_nil, List.getElem?_nil, List.take_nil, ↓reduceIte, Bool.false_eq_true, decide_false, Nat.le_refl, reduceCtorEq, Nat.reduceEqDiff, roundF_eq, kt_nil, hd, h0, reduceCtorEq])
  simp only [Int.natCast_zero] at hloop
  unfold fn266 idxC
  cases hq : findFrom (fun i a => if p a = true then some i else none) xs 0 <;> simp only [hq, fromFind] at hloop <;> simp -implicitDefEqProofs only [code_ops, code_seq, code_ret, ops_cons, ops_nil, aOp, opd, upd_at, initTm_at, kt_cons, stepVal, aLen, endFn, aResults, aResult, tupled, code_loopF, gc_mk, isTrim_cons, gcIds_mk, newIds_nil, gcMap_at, posOf, ren, renC, renO_gone, idsV, idsC, wipeR_int, isData_list_none, isData_int, Option.getD_some, Option.getD_none, List.map_cons, List.map_nil, List.flatMap_cons, List.flatMap_nil, List.length_nil, List.length_map, List.append_nil, List.getElem?_nil, List.getElem?_cons_zero, List.getElem?_cons_succ, List.take_nil, ↓reduceIte, Bool.false_eq_true, decide_false, Nat.le_refl, reduceCtorEq, Nat.reduceEqDiff, Int.reduceNeg, outOf_val, data_Alts, hd, hloop, hq]
theorem con264 {L : Lib} (hL : Plain L) (hf : L.fns 264 = some fn264) (hfi : L.fns 266 = some fn266) (f : AVal) (hd : isData f = true) (hk : ∃ g a c, f = .func g a c) (p : CAlt → Bool) (xs : List CAlt) (hl : xs.length < 2 ^ 30)
    (hg : ∀ a ∈ xs, ∀ h : Heap, (match f with | .func g u c => doCall L.pure (call L) g (u ++ .agg [.int .i64 a.tag, .list (a.binds.map encI) none] :: c) h | _ => none) = some (.val (.bool (p a)), h)) (h : Heap) :
    pcall L 264 [.list (xs.map encAlt) none, f] h = some (.val (.bool (xs.any p)), h) := by
  have hp := hL.pure
  have hi := idx266 hL hfi f hd hk p xs hl hg
  obtain ⟨g, u, c, rfl⟩ := hk
  refine pcall_fn hL hf rfl ?_ h
  have ha := idxC_any p xs
  unfold fn264
  cases hq : xs.any p <;> rw [hq] at ha <;> simp -implicitDefEqProofs only [code_ops, code_seq, code_ret, ops_cons, ops_nil, aOp, opd, upd_at, initTm_at, stepVal, aBin, aInt, isShift, endFn, aResults, aResult, tupled, wipe_list, wipeR_bool, wipe_func, isData_list_none, isDataL_nil, isDataL_cons, Option.getD_some, List.map_cons, List.map_nil, List.nil_append, List.append_nil, List.getElem?_cons_zero, List.getElem?_cons_succ, ↓reduceIte, Bool.and_true, Bool.false_eq_true, reduceCtorEq, Nat.reduceEqDiff, ge_iff_le, outOf_val, data_Alts, hd, hi, doCall_p L hp, hp, ha]
/-- Whether an alternative is not as it should be. -/
def altBad (op : Int) (as : List CAlt) (i : Nat) (a : CAlt) : Bool :=
  (as.take i).any (fun b => b.tag == a.tag) || decide (a.tag < -1) || (op == 7 && a.tag == -1 && (decide ((i : Int) < as.length - 1) || decide ((0 : Int) < a.binds.length))) ||
  (op == 13 && (((i : Int) == 0) != (a.tag == -1))) || (op == 13 && ((a.binds.length : Int) != min ((i : Int) + 1) 2))
def altsOk (op : Int) (as : List CAlt) (kids : Nat) : Bool :=
  (findFrom (fun i a => if altBad op as i a = true then some () else none) as 0).isNone && ((kids : Int) == 1 + (as.length : Int)) && (op == 7 || decide ((0 : Int) < as.length))
theorem alt_same (c : CAlt) {L : Lib} (hL : Plain L) (hf : L.fns 265 = some fn265) (a : CAlt) (h : Heap) :
    pcall L 265 [.agg [.int .i64 a.tag, .list (a.binds.map encI) none], .vptr [.int .i64 c.tag, .list (c.binds.map encI) none] 0] h = some (.val (.bool (a.tag == c.tag)), h) := by
  refine pcall_fn hL hf rfl ?_ h
  unfold fn265
  simp -implicitDefEqProofs only [code_ops, code_seq, code_ret, ops_cons, ops_nil, aOp, opd, upd_at, initTm_at, stepVal, aBin, aInt, isShift, aLoad1, aField, acells_agg, endFn, aResults, aResult, tupled, wipeR_bool, Option.getD_some, List.length_nil, List.nil_append, List.getElem?_cons_zero, List.getElem?_cons_succ, ↓reduceIte, Bool.false_eq_true, Nat.add_zero, Nat.reduceEqDiff, outOf_val]
section
variable {L : Lib} (hL : Plain L)
include hL
theorem alts_round (h265 : L.fns 265 = some fn265) (h264 : L.fns 264 = some fn264) (h266 : L.fns 266 = some fn266) (op n : Int) (binds kids : List Int) (as : List CAlt) (hl : as.length < 2 ^ 30) (i : Nat) (hi : i < as.length) :
    roundF L.pure (call L) 1 [1, 7, 8, 9] [1, 2] fn258_l0 ⟨kt [1, 7, 8, 9] [.ptr (some (0, 0)), .list (as.map encAlt) none, .int .i64 as.length, .int .i64 i], [.box [.int .i64 op, .int .i64 n, .list (binds.map encI) none, .list (kids.map encI) none, .list (as.map encAlt) none]]⟩ =
    some (if altBad op as i as[i] = true then (.ret, ⟨kt [1, 2] [.ptr (some (0, 0)), .bool false], [.box [.int .i64 op, .int .i64 n, .list (binds.map encI) none, .list (kids.map encI) none, .list (as.map encAlt) none]]⟩) else
      (.normal, ⟨kt [1, 7, 8, 9] [.ptr (some (0, 0)), .list (as.map encAlt) none, .int .i64 as.length, .int .i64 ((i + 1 : Nat) : Int)], [.box [.int .i64 op, .int .i64 n, .list (binds.map encI) none, .list (kids.map encI) none, .list (as.map encAlt) none]]⟩)) := by
  have hp := hL.pure
  obtain ⟨h1, h2, h3⟩ := round_c encAlt as hl i hi
  have h4 : (i : Int) ≤ as.length := by omega
  have h5 : (as.map encAlt).take i = (as.take i).map encAlt := by rw [List.map_take]
  have hcon := con264 hL h264 h266 (.func 265 [] [.vptr [.int .i64 as[i].tag, .list (as[i].binds.map encI) none] 0]) (by simp only [isData, isDataL, data_Ints, Bool.and_self]) ⟨_, _, _, rfl⟩
    (fun b => b.tag == as[i].tag) (as.take i) (by simp; omega)
    (by
      intro a ha h
      have := alt_same as[i] hL h265 a h
      dsimp only
      simp -implicitDefEqProofs only [wipe_agg, wipe_vptr, wipeC_list, wipeC_int, isData_list_none, isData_int, isData_agg, isData_vptr, isDataL_nil, isDataL_cons, List.map_cons, List.map_nil, List.nil_append, ↓reduceIte, Bool.and_true, data_Ints, this, doCall_p L hp, hp])
  have h6 : IntKind.i64.wrap ((as.length : Int) - 1) = (as.length : Int) - 1 := wrap64 (by omega) (by omega)
  unfold altBad
  generalize ha : as[i] = a at *
  generalize (as.take i).any (fun b => b.tag == a.tag) = again at *
  cases again with
  | true =>
    unfold fn258_l0
    simp -implicitDefEqProofs only [code_skip, code_ops, code_seq, code_cond, code_block, code_ret, ops_cons, ops_cons_g, ops_nil, aOp, opd, upd_at, upd_none, kt_cons, stepVal, stepHeap, aBin, aInt, aIndexList, isShift, aWanted, aLoad1, aStore, readAt, aField, leaf, acells_agg, cellsSet, gcE, gc_mk, isTrim_cons, gcIds_mk, newIds_nil, newIds_cons, gcMap_at, posOf, ren, renC, renO_box, idsV, idsC, idsO_box, wipe_list, wipe_func, wipeC_list, wipeC_int, isData_list_none, isData_bool, isData_int, isData_func, isData_vptr, isData_ptr, isDataL_nil, isDataL_cons, beqTF, Option.map_some, Option.map_none, List.map_cons, List.map_nil, List.flatMap_cons, List.flatMap_nil, List.length_cons, List.length_nil, List.length_map, List.cons_append, List.nil_append, List.append_nil, List.getElem?_cons_zero, List.getElem?_cons_succ, List.set_cons_zero, List.set_cons_succ, List.take_succ_cons, List.take_zero, List.drop_succ_cons, List.drop_zero, List.take_nil, List.drop_nil, List.all_cons, List.all_nil, List.not_mem_nil, ↓reduceIte, Bool.and_true, Bool.true_or, Bool.false_eq_true, and_true, false_and, not_false_eq_true, decide_true, decide_false, and_self, Nat.le_refl, reduceCtorEq, Nat.zero_add, Nat.reduceEqDiff, Nat.reduceAdd, Nat.reduceLT, Nat.reduceLeDiff, Int.reduceToNat, Int.toNat_natCast, Int.natCast_nonneg, roundF_eq, Int.reduceNeg, kt_nil, Int.cast_ofNat_Int, code_freeze, freezeS_mk, frzAt_mk, frzT_at, frz, frzC, frzO, aSlice, intOr, encAlt_eq, data_Ints, data_Alts, all_Alts, Int.le_refl, h1, h2, h3, h4, h5, hcon, doCall_p L hp, hp]
  | false =>
    by_cases hlt : a.tag < -1
    · unfold fn258_l0
      simp -implicitDefEqProofs only [code_skip, code_ops, code_seq, code_cond, code_block, code_ret, ops_cons, ops_cons_g, ops_nil, aOp, opd, upd_at, upd_none, kt_cons, stepVal, stepHeap, aBin, aInt, aIndexList, isShift, aWanted, aLoad1, aStore, readAt, aField, leaf, acells_agg, cellsSet, gcE, gc_mk, isTrim_cons, gcIds_mk, newIds_nil, newIds_cons, gcMap_at, posOf, ren, renC, renO_box, idsV, idsC, idsO_box, wipe_list, wipe_func, wipeC_list, wipeC_int, isData_list_none, isData_bool, isData_int, isData_func, isData_vptr, isData_ptr, isDataL_nil, isDataL_cons, beq_self_eq_true, Option.map_some, Option.map_none, List.map_cons, List.map_nil, List.flatMap_cons, List.flatMap_nil, List.length_cons, List.length_nil, List.length_map, List.cons_append, List.nil_append, List.append_nil, List.getElem?_cons_zero, List.getElem?_cons_succ, List.set_cons_zero, List.set_cons_succ, List.take_succ_cons, List.take_zero, List.drop_succ_cons, List.drop_zero, List.take_nil, List.drop_nil, List.all_cons, List.all_nil, List.not_mem_nil, ↓reduceIte, Bool.and_true, Bool.or_true, Bool.true_or, Bool.false_eq_true, and_true, false_and, not_false_eq_true, decide_true, decide_false, and_self, Nat.le_refl, reduceCtorEq, Nat.add_zero, Nat.zero_add, Nat.reduceEqDiff, Nat.reduceAdd, Nat.reduceLT, Nat.reduceLeDiff, Int.reduceToNat, Int.toNat_natCast, Int.natCast_nonneg, roundF_eq, Int.reduceNeg, kt_nil, Int.cast_ofNat_Int, code_freeze, freezeS_mk, frzAt_mk, frzT_at, frz, frzC, frzO, aSlice, intOr, encAlt_eq, data_Ints, data_Alts, all_Alts, Int.le_refl, h1, h2, h3, h4, h5, hcon, doCall_p L hp, hp, hlt]
    · cases h7 : op == 7 with
      | true =>
        have h13 : (op == 13) = false := by
          have : op = 7 := by simpa using h7
          subst this; rfl
        cases hm : a.tag == -1 with
        | true =>
          by_cases hq : (i : Int) < as.length - 1
          · unfold fn258_l0
            simp -implicitDefEqProofs only [code_skip, code_ops, code_seq, code_cond, code_block, code_ret, ops_cons, ops_cons_g, ops_nil, aOp, opd, upd_at, upd_none, kt_cons, stepVal, stepHeap, aBin, aLen, aInt, aIndexList, isShift, aWanted, aLoad1, aStore, readAt, aField, leaf, acells_agg, cellsSet, gcE, gc_mk, isTrim_cons, gcIds_mk, newIds_nil, newIds_cons, gcMap_at, posOf, ren, renC, renO_box, idsV, idsC, idsO_box, wipe_list, wipe_func, wipeC_list, wipeC_int, isData_list_none, isData_bool, isData_int, isData_func, isData_vptr, isData_ptr, isDataL_nil, isDataL_cons, beqTF, beq_self_eq_true, Option.map_some, Option.map_none, List.map_cons, List.map_nil, List.flatMap_cons, List.flatMap_nil, List.length_cons, List.length_nil, List.length_map, List.cons_append, List.nil_append, List.append_nil, List.getElem?_cons_zero, List.getElem?_cons_succ, List.set_cons_zero, List.set_cons_succ, List.take_succ_cons, List.take_zero, List.drop_succ_cons, List.drop_zero, List.take_nil, List.drop_nil, List.all_cons, List.all_nil, List.not_mem_nil, ↓reduceIte, Bool.and_true, Bool.false_and, Bool.or_true, Bool.true_or, Bool.or_false, Bool.false_eq_true, and_true, false_and, not_false_eq_true, decide_true, decide_false, and_self, Nat.le_refl, reduceCtorEq, Nat.add_zero, Nat.zero_add, Nat.reduceEqDiff, Nat.reduceAdd, Nat.reduceLT, Nat.reduceLeDiff, Int.reduceToNat, Int.toNat_natCast, Int.natCast_nonneg, roundF_eq, Int.reduceNeg, kt_nil, Int.cast_ofNat_Int, code_freeze, freezeS_mk, frzAt_mk, frzT_at, frz, frzC, frzO, aSlice, intOr, encAlt_eq, data_Ints, data_Alts, all_Alts, Int.le_refl, h1, h2, h3, h4, h5, h6, hcon, doCall_p L hp, hp, hlt, h7, h13, hm, hq]
          · by_cases hb : (0 : Int) < a.binds.length
            · unfold fn258_l0
              simp -implicitDefEqProofs only [code_skip, code_ops, code_seq, code_cond, code_block, code_ret, ops_cons, ops_cons_g, ops_nil, aOp, opd, upd_at, upd_none, kt_cons, stepVal, stepHeap, aBin, aLen, aInt, aIndexList, isShift, aWanted, aLoad1, aStore, readAt, aField, leaf, acells_agg, cellsSet, gcE, gc_mk, isTrim_cons, gcIds_mk, newIds_nil, newIds_cons, gcMap_at, posOf, ren, renC, renO_box, idsV, idsC, idsO_box, wipe_list, wipe_func, wipeC_list, wipeC_int, isData_list_none, isData_bool, isData_int, isData_func, isData_vptr, isData_ptr, isDataL_nil, isDataL_cons, beq_self_eq_true, Option.map_some, Option.map_none, List.map_cons, List.map_nil, List.flatMap_cons, List.flatMap_nil, List.length_cons, List.length_nil, List.length_map, List.cons_append, List.nil_append, List.append_nil, List.getElem?_cons_zero, List.getElem?_cons_succ, List.set_cons_zero, List.set_cons_succ, List.take_succ_cons, List.take_zero, List.drop_succ_cons, List.drop_zero, List.take_nil, List.drop_nil, List.all_cons, List.all_nil, List.not_mem_nil, ↓reduceIte, Bool.and_true, Bool.false_and, Bool.or_true, Bool.or_false, Bool.false_eq_true, and_true, false_and, not_false_eq_true, decide_true, decide_false, and_self, Nat.le_refl, reduceCtorEq, Nat.add_zero, Nat.zero_add, Nat.reduceEqDiff, Nat.reduceAdd, Nat.reduceLT, Nat.reduceLeDiff, Int.reduceToNat, Int.toNat_natCast, Int.natCast_nonneg, roundF_eq, Int.reduceNeg, kt_nil, Int.cast_ofNat_Int, gt_iff_lt, code_freeze, freezeS_mk, frzAt_mk, frzT_at, frz, frzC, frzO, aSlice, intOr, encAlt_eq, data_Ints, data_Alts, all_Alts, Int.le_refl, h1, h2, h3, h4, h5, h6, hcon, doCall_p L hp, hp, hlt, h7, h13, hm, hq, hb]
            · unfold fn258_l0
              simp -implicitDefEqProofs only [code_skip, code_ops, code_seq, code_cond, code_block, ops_cons, ops_cons_g, ops_nil, aOp, opd, upd_at, upd_none, kt_cons, stepVal, stepHeap, aBin, aLen, aInt, aIndexList, isShift, aWanted, aLoad1, aStore, readAt, aField, leaf, acells_agg, cellsSet, gc_mk, isTrim_cons, gcIds_mk, newIds_nil, newIds_cons, gcMap_at, posOf, ren, renC, renO_box, idsV, idsC, idsO_box, wipe_list, wipe_func, wipeC_list, wipeC_int, isData_list_none, isData_int, isData_func, isData_vptr, isData_ptr, isDataL_nil, isDataL_cons, beqFT, beq_self_eq_true, Option.map_some, Option.map_none, List.map_cons, List.map_nil, List.flatMap_cons, List.flatMap_nil, List.length_cons, List.length_nil, List.length_map, List.cons_append, List.nil_append, List.append_nil, List.getElem?_cons_zero, List.getElem?_cons_succ, List.set_cons_zero, List.set_cons_succ, List.take_succ_cons, List.take_zero, List.drop_succ_cons, List.drop_zero, List.take_nil, List.drop_nil, List.all_cons, List.all_nil, List.not_mem_nil, ↓reduceIte, Bool.and_true, Bool.and_false, Bool.false_and, Bool.or_false, Bool.false_eq_true, and_true, false_and, not_false_eq_true, decide_true, decide_false, and_self, Nat.le_refl, reduceCtorEq, Nat.add_zero, Nat.zero_add, Nat.reduceEqDiff, Nat.reduceAdd, Nat.reduceLT, Nat.reduceLeDiff, Int.reduceToNat, Int.toNat_natCast, Int.natCast_nonneg, roundF_eq, Int.reduceNeg, kt_nil, Int.cast_ofNat_Int, gt_iff_lt, code_freeze, freezeS_mk, frzAt_mk, frzT_at, frz, frzC, frzO, aSlice, intOr, encAlt_eq, data_Ints, data_Alts, all_Alts, Int.le_refl, h1, h2, h3, h4, h5, h6, hcon, doCall_p L hp, hp, hlt, h7, h13, hm, hq, hb]
        | false =>
          unfold fn258_l0
          simp -implicitDefEqProofs only [code_skip, code_ops, code_seq, code_cond, code_block, ops_cons, ops_cons_g, ops_nil, aOp, opd, upd_at, upd_none, kt_cons, stepVal, stepHeap, aBin, aInt, aIndexList, isShift, aWanted, aLoad1, aStore, readAt, aField, leaf, acells_agg, cellsSet, gc_mk, isTrim_cons, gcIds_mk, newIds_nil, newIds_cons, gcMap_at, posOf, ren, renC, renO_box, idsV, idsC, idsO_box, wipe_list, wipe_func, wipeC_list, wipeC_int, isData_list_none, isData_int, isData_func, isData_vptr, isData_ptr, isDataL_nil, isDataL_cons, beqFT, beq_self_eq_true, Option.map_some, Option.map_none, List.map_cons, List.map_nil, List.flatMap_cons, List.flatMap_nil, List.length_cons, List.length_nil, List.length_map, List.cons_append, List.nil_append, List.append_nil, List.getElem?_cons_zero, List.getElem?_cons_succ, List.set_cons_zero, List.set_cons_succ, List.take_succ_cons, List.take_zero, List.drop_succ_cons, List.drop_zero, List.take_nil, List.drop_nil, List.all_cons, List.all_nil, List.not_mem_nil, ↓reduceIte, Bool.and_true, Bool.and_false, Bool.false_and, Bool.or_false, Bool.false_eq_true, and_true, false_and, not_false_eq_true, decide_true, decide_false, and_self, Nat.le_refl, reduceCtorEq, Nat.add_zero, Nat.zero_add, Nat.reduceEqDiff, Nat.reduceAdd, Nat.reduceLT, Nat.reduceLeDiff, Int.reduceToNat, Int.toNat_natCast, Int.natCast_nonneg, roundF_eq, Int.reduceNeg, kt_nil, Int.cast_ofNat_Int, code_freeze, freezeS_mk, frzAt_mk, frzT_at, frz, frzC, frzO, aSlice, intOr, encAlt_eq, data_Ints, data_Alts, all_Alts, Int.le_refl, h1, h2, h3, h4, h5, h6, hcon, doCall_p L hp, hp, hlt, h7, h13, hm]
      | false =>
        cases h13 : op == 13 with
        | false =>
          unfold fn258_l0
          simp -implicitDefEqProofs only [code_skip, code_ops, code_seq, code_cond, code_block, ops_cons, ops_cons_g, ops_nil, aOp, opd, upd_at, upd_none, kt_cons, stepVal, stepHeap, aBin, aInt, aIndexList, isShift, aWanted, aLoad1, aStore, readAt, aField, leaf, acells_agg, cellsSet, gc_mk, isTrim_cons, gcIds_mk, newIds_nil, newIds_cons, gcMap_at, posOf, ren, renC, renO_box, idsV, idsC, idsO_box, wipe_list, wipe_func, wipeC_list, wipeC_int, isData_list_none, isData_int, isData_func, isData_vptr, isData_ptr, isDataL_nil, isDataL_cons, beqFT, beq_self_eq_true, Option.map_some, Option.map_none, List.map_cons, List.map_nil, List.flatMap_cons, List.flatMap_nil, List.length_cons, List.length_nil, List.length_map, List.cons_append, List.nil_append, List.append_nil, List.getElem?_cons_zero, List.getElem?_cons_succ, List.set_cons_zero, List.set_cons_succ, List.take_succ_cons, List.take_zero, List.drop_succ_cons, List.drop_zero, List.take_nil, List.drop_nil, List.all_cons, List.all_nil, List.not_mem_nil, ↓reduceIte, Bool.and_true, Bool.false_and, Bool.or_false, Bool.false_eq_true, and_true, false_and, not_false_eq_true, decide_true, decide_false, and_self, Nat.le_refl, reduceCtorEq, Nat.add_zero, Nat.zero_add, Nat.reduceEqDiff, Nat.reduceAdd, Nat.reduceLT, Nat.reduceLeDiff, Int.reduceToNat, Int.toNat_natCast, Int.natCast_nonneg, roundF_eq, Int.reduceNeg, kt_nil, Int.cast_ofNat_Int, code_freeze, freezeS_mk, frzAt_mk, frzT_at, frz, frzC, frzO, aSlice, intOr, encAlt_eq, data_Ints, data_Alts, all_Alts, Int.le_refl, h1, h2, h3, h4, h5, h6, hcon, doCall_p L hp, hp, hlt, h7, h13]
        | true =>
          have h10 : aMinMax false [.int .i64 ((i + 1 : Nat) : Int), .int .i64 2] = some (.int .i64 (min ((i : Int) + 1) 2)) := minMax_min _ 2
          cases hm : a.tag == -1 <;> cases h0 : ((i : Int) == 0) <;> cases hbl : ((a.binds.length : Int) == min ((i : Int) + 1) 2) <;> unfold fn258_l0 <;>
            simp -implicitDefEqProofs only [code_skip, code_ops, code_seq, code_cond, code_block, code_ret, ops_cons, ops_cons_g, ops_nil, aOp, opd, upd_at, upd_none, kt_cons, stepVal, stepHeap, aBin, aLen, aInt, aEq, aIndexList, isShift, aWanted, aLoad1, aStore, readAt, aField, leaf, acells_agg, cellsSet, gcE, gc_mk, isTrim_cons, gcIds_mk, newIds_nil, newIds_cons, gcMap_at, posOf, ren, renC, renO_box, idsV, idsC, idsO_box, wipe_list, wipe_func, wipeC_list, wipeC_int, isData_list_none, isData_bool, isData_int, isData_func, isData_vptr, isData_ptr, isDataL_nil, isDataL_cons, beqTF, beqFT, beq_self_eq_true, Option.map_some, Option.map_none, List.map_cons, List.map_nil, List.flatMap_cons, List.flatMap_nil, List.length_cons, List.length_nil, List.length_map, List.cons_append, List.nil_append, List.append_nil, List.getElem?_cons_zero, List.getElem?_cons_succ, List.set_cons_zero, List.set_cons_succ, List.take_succ_cons, List.take_zero, List.drop_succ_cons, List.drop_zero, List.take_nil, List.drop_nil, List.all_cons, List.all_nil, List.not_mem_nil, ↓reduceIte, Bool.and_true, Bool.and_false, Bool.false_and, Bool.or_true, Bool.or_false, Bool.not_true, Bool.not_false, Bool.false_eq_true, and_true, false_and, not_false_eq_true, decide_true, decide_false, and_self, Nat.le_refl, reduceCtorEq, Nat.add_zero, Nat.zero_add, Nat.reduceEqDiff, Nat.reduceAdd, Nat.reduceLT, Nat.reduceLeDiff, Int.reduceToNat, Int.toNat_natCast, Int.natCast_nonneg, roundF_eq, Int.reduceNeg, kt_nil, Int.cast_ofNat_Int, code_freeze, freezeS_mk, frzAt_mk, frzT_at, frz, frzC, frzO, aSlice, intOr, encAlt_eq, data_Ints, data_Alts, all_Alts, Int.le_refl, h1, h2, h3, h4, h5, h6, hcon, doCall_p L hp, hp, hlt, h7, h13, hm, h0, h10, hbl, bne]
theorem alts_ok (h265 : L.fns 265 = some fn265) (h264 : L.fns 264 = some fn264) (h266 : L.fns 266 = some fn266) (h258 : L.fns 258 = some fn258) (op n : Int) (binds kids : List Int) (as : List CAlt) (hl : as.length < 2 ^ 30) (h : Heap) :
    pcall L 258 [.agg [.int .i64 op, .int .i64 n, .list (binds.map encI) none, .list (kids.map encI) none, .list (as.map encAlt) none]] h = some (.val (.bool (altsOk op as kids.length)), h) := by
  have hp := hL.pure
  have hround := alts_round hL h265 h264 h266 op n binds kids as hl
  have hloop := loopF_find (pure := L.pure) (call := call L) (b := 1) (keep := [1, 7, 8, 9]) (fk := [1, 2]) (id := 0) (body := fn258_l0) as (fun i a => if altBad op as i a = true then some () else none)
    (fun i => ⟨kt [1, 7, 8, 9] [.ptr (some (0, 0)), .list (as.map encAlt) none, .int .i64 as.length, .int .i64 i], [.box [.int .i64 op, .int .i64 n, .list (binds.map encI) none, .list (kids.map encI) none, .list (as.map encAlt) none]]⟩)
    ⟨kt [1, 2] [.ptr (some (0, 0)), .junk], [.box [.int .i64 op, .int .i64 n, .list (binds.map encI) none, .list (kids.map encI) none, .list (as.map encAlt) none]]⟩
    (fun _ => ⟨kt [1, 2] [.ptr (some (0, 0)), .bool false], [.box [.int .i64 op, .int .i64 n, .list (binds.map encI) none, .list (kids.map encI) none, .list (as.map encAlt) none]]⟩)
    (by
      intro i hi hq
      rw [hround i hi, if_neg]
      intro hb
      rw [if_pos hb] at hq
      cases hq)
    (by
      intro i hi r hq
      rw [hround i hi, if_pos]
      cases hb : altBad op as i as[i] with
      | true => rfl
      | false => rw [hb] at hq; cases hq)
    (by
      have h0 := append_c as.length
      unfold fn258_l0
      simp -implicitDefEqProofs only [code_ops, code_seq, code_cond, code_exit, ops_cons, ops_nil, aOp, opd, upd_at, kt_cons, stepVal, aBin, aInt, isShift, gcE, gc_mk, isTrim_cons, gcIds_mk, newIds_nil, newIds_cons, gcMap_at, posOf, ren, renC, renO_box, idsV, idsC, idsO_box, isData_list_none, isData_int, isData_ptr, isData_junk, List.map_cons, List.map_nil, List.flatMap_cons, List.flatMap_nil, List.length_cons, List.length_nil, List.append_nil, List.take_succ_cons, List.take_nil, List.not_mem_nil, ↓reduceIte, Bool.false_eq_true, and_true, not_false_eq_true, decide_false, Nat.le_refl, Nat.zero_add, Nat.reduceEqDiff, Nat.reduceLT, Nat.reduceLeDiff, roundF_eq, Int.reduceNeg, kt_nil, data_Ints, data_Alts, h0])
  simp only [Int.natCast_zero] at hloop
  refine pcall_fn hL h258 rfl ?_ h
  have hw : IntKind.i64.wrap (1 + (as.length : Int)) = 1 + (as.length : Int) := wrap64 (by omega) (by omega)
  unfold altsOk
  cases hq : findFrom (fun i a => if altBad op as i a = true then some () else none) as 0 with
  | some r =>
    simp only [hq, fromFind] at hloop
    unfold fn258
    simp -implicitDefEqProofs only [code_ops, code_seq, ops_cons, ops_nil, aOp, opd, upd_at, initTm_at, kt_cons, stepVal, aLen, aLoad1, aField, acells_agg, endFn, aResults, aResult, tupled, code_loopF, gc_mk, isTrim_cons, gcIds_mk, newIds_nil, newIds_cons, gcMap_at, posOf, ren, renC, renO_box, idsV, idsC, idsO_box, wipeR_bool, isData_list_none, isData_int, isData_ptr, Option.getD_some, List.map_cons, List.map_nil, List.flatMap_cons, List.flatMap_nil, List.length_cons, List.length_nil, List.length_map, List.nil_append, List.append_nil, List.getElem?_cons_zero, List.getElem?_cons_succ, List.take_succ_cons, List.take_nil, List.not_mem_nil, ↓reduceIte, Bool.false_and, Bool.false_eq_true, and_true, not_false_eq_true, decide_false, Nat.le_refl, Nat.zero_add, Nat.reduceEqDiff, Nat.reduceLT, Nat.reduceLeDiff, outOf_val, data_Ints, data_Alts, Option.isNone_some, hloop]
  | none =>
    simp only [hq, fromFind] at hloop
    cases hk : ((kids.length : Int) == 1 + (as.length : Int)) with
    | false =>
      unfold fn258
      simp -implicitDefEqProofs only [code_ops, code_seq, code_ret, ops_cons, ops_cons_g, ops_nil, aOp, opd, upd_at, initTm_at, kt_cons, stepVal, aBin, aLen, aInt, isShift, aWanted, aLoad1, aField, acells_agg, endFn, aResults, aResult, tupled, code_loopF, gc_mk, isTrim_cons, gcIds_mk, newIds_nil, newIds_cons, gcMap_at, posOf, ren, renC, renO_box, idsV, idsC, idsO_box, wipeR_bool, isData_list_none, isData_int, isData_ptr, beqFT, Option.getD_some, List.map_cons, List.map_nil, List.flatMap_cons, List.flatMap_nil, List.length_cons, List.length_nil, List.length_map, List.nil_append, List.append_nil, List.getElem?_cons_zero, List.getElem?_cons_succ, List.take_succ_cons, List.take_nil, List.not_mem_nil, ↓reduceIte, Bool.and_false, Bool.false_and, Bool.false_eq_true, and_true, not_false_eq_true, decide_false, Nat.le_refl, Nat.zero_add, Nat.reduceEqDiff, Nat.reduceLT, Nat.reduceLeDiff, outOf_val, data_Ints, data_Alts, Option.isNone_none, hloop, hw, hk]
    | true =>
      cases h7 : op == 7 with
      | true =>
        unfold fn258
        simp -implicitDefEqProofs only [code_ops, code_seq, code_ret, ops_cons, ops_cons_g, ops_nil, aOp, opd, upd_at, initTm_at, kt_cons, stepVal, aBin, aLen, aInt, isShift, aWanted, aLoad1, aField, acells_agg, endFn, aResults, aResult, tupled, code_loopF, gc_mk, isTrim_cons, gcIds_mk, newIds_nil, newIds_cons, gcMap_at, posOf, ren, renC, renO_box, idsV, idsC, idsO_box, wipeR_bool, isData_list_none, isData_int, isData_ptr, beqTF, beq_self_eq_true, Option.getD_some, List.map_cons, List.map_nil, List.flatMap_cons, List.flatMap_nil, List.length_cons, List.length_nil, List.length_map, List.nil_append, List.append_nil, List.getElem?_cons_zero, List.getElem?_cons_succ, List.take_succ_cons, List.take_nil, List.not_mem_nil, ↓reduceIte, Bool.and_true, Bool.true_or, Bool.false_eq_true, and_true, not_false_eq_true, decide_false, Nat.le_refl, Nat.add_zero, Nat.zero_add, Nat.reduceEqDiff, Nat.reduceLT, Nat.reduceLeDiff, outOf_val, data_Ints, data_Alts, Option.isNone_none, hloop, hw, hk, h7]
      | false =>
        unfold fn258
        simp -implicitDefEqProofs only [code_ops, code_seq, code_ret, ops_cons, ops_cons_g, ops_nil, aOp, opd, upd_at, initTm_at, kt_cons, stepVal, aBin, aLen, aInt, isShift, aWanted, aLoad1, aField, acells_agg, endFn, aResults, aResult, tupled, code_loopF, gc_mk, isTrim_cons, gcIds_mk, newIds_nil, newIds_cons, gcMap_at, posOf, ren, renC, renO_box, idsV, idsC, idsO_box, wipeR_bool, isData_list_none, isData_int, isData_ptr, beq_self_eq_true, Option.getD_some, List.map_cons, List.map_nil, List.flatMap_cons, List.flatMap_nil, List.length_cons, List.length_nil, List.length_map, List.nil_append, List.append_nil, List.getElem?_cons_zero, List.getElem?_cons_succ, List.take_succ_cons, List.take_nil, List.not_mem_nil, ↓reduceIte, Bool.and_true, Bool.true_and, Bool.false_or, Bool.false_eq_true, and_true, not_false_eq_true, decide_false, Nat.le_refl, Nat.add_zero, Nat.zero_add, Nat.reduceEqDiff, Nat.reduceLT, Nat.reduceLeDiff, gt_iff_lt, outOf_val, data_Ints, data_Alts, Option.isNone_none, hloop, hw, hk, h7]
end
end Go.Abs
