/-
  The tree of a list. Conditions: none.
-/
import Derived.Test.YtciacognbcgfiaaDoorCoreJ
set_option linter.unusedVariables false
set_option linter.unusedSimpArgs false
set_option maxRecDepth 100000
set_option maxHeartbeats 4000000
namespace Go.Abs
/-- What is known of the copy of a slice of numbers and of sorting one. -/
structure CPrims (L : Lib) (sortI : List Int → List Int) : Prop where
  clone : ∀ (l : List Int) (h : Heap), l.length < 2 ^ 30 → pcall L 188 [.list (l.map encI) none] h = some (.val (.list (l.map encI) none), h)
  sort : ∀ (l : List Int), l ≠ [] → l.length < 2 ^ 30 → call L 138 [.vec 0 l.length] [.vec (l.map encI) 1] = some (.val (.tuple []), [.vec ((sortI l).map encI) 1])
  sort0 : ∀ h : Heap, pcall L 138 [.list [] none] h = some (.val (.tuple []), h)
def CTree.none : CTree := .mk 0 0 [] [] []
def growStep (ts : List CTree) (x : CExpr) : List CTree := ts ++ [.mk x.op x.n x.binds (x.kids.map fun k => ts.getD k.toNat .none) x.alts]
def growAll (e : List CExpr) : List CTree := e.foldl growStep []
def grow1 (e : List CExpr) : CTree := (growAll e).getD (e.length - 1) .none
/-- Each kid is a node ahead. -/
def Ahead (e : List CExpr) : Prop := ∀ (i : Nat) (hi : i < e.length), ∀ k ∈ e[i].kids, 0 ≤ k ∧ k < i
theorem wipeR_vptr (cs : List AVal) (n : Nat) : wipeR (.vptr cs n) = .vptr cs n := rfl
theorem enc_vptr (t : CTree) : ∃ tc, encTree t = .vptr tc 0 ∧ isDataL tc = true := by
  have h := data_Tree t
  cases t
  rw [encTree_eq] at h ⊢
  exact ⟨_, rfl, h⟩
section
variable {L : Lib} (hL : Plain L)
def g160a (e : List CExpr) (i : Nat) (x : CExpr) (cs : List AVal) (look : Int → CTree) (j : Nat) : St :=
  ⟨kt [0, 3, 4, 5, 6, 14, 15, 16, 31, 32, 33] [.list (e.map encExpr) none, .vec 0 e.length, .int .i64 i, .ptr (some (1, 0)), .ptr (some (2, 0)), .list (e.map encExpr) none, .int .i64 e.length, .int .i64 i, .list (x.kids.map encI) none, .int .i64 x.kids.length, .int .i64 j],
    [.vec cs 1, .box [.int .i64 x.op, .int .i64 x.n, .list (x.binds.map encI) none, .list (x.kids.map encI) none, .list (x.alts.map encAlt) none],
      .box [.int .i64 x.op, .int .i64 x.n, .list (x.binds.map encI) none, .list (((x.kids.take j).map look).map encTree) (ownAt 3 j), .list [] (some none)]] ++ tailAt 1 j⟩
def g160b (e : List CExpr) (i : Nat) (x : CExpr) (cs : List AVal) (look : Int → CTree) : St :=
  ⟨kt [0, 3, 4, 5, 6, 14, 15, 16] [.list (e.map encExpr) none, .vec 0 e.length, .int .i64 i, .ptr (some (1, 0)), .ptr (some (2, 0)), .list (e.map encExpr) none, .int .i64 e.length, .int .i64 i],
    [.vec cs 1, .box [.int .i64 x.op, .int .i64 x.n, .list (x.binds.map encI) none, .list (x.kids.map encI) none, .list (x.alts.map encAlt) none],
      .box [.int .i64 x.op, .int .i64 x.n, .list (x.binds.map encI) none, .list ((x.kids.map look).map encTree) (ownAt 3 x.kids.length), .list [] (some none)]] ++ tailAt 1 x.kids.length⟩
theorem grow_l0 (e : List CExpr) (i : Nat) (x : CExpr) (hk : x.kids.length < 2 ^ 30) (cs : List AVal) (hcs : isDataL cs = true) (look : Int → CTree)
    (hlook : ∀ k ∈ x.kids, 0 ≤ k ∧ k < e.length ∧ cs[k.toNat]? = some (encTree (look k))) :
    loopF L.pure (call L) 3 [0, 3, 4, 5, 6, 14, 15, 16, 31, 32, 33] [0, 3, 4, 5, 6, 14, 15, 16] 2 fn160_l0 (g160a e i x cs look 0) = some (.normal, g160b e i x cs look) := by
  have hdE := data_Exprs e
  have hid := ids_data hcs
  have hre := fun ρ => ren_data ρ hcs
  refine loopF_count (g160a e i x cs look) x.kids.length ?_ ?_
  · intro j hj
    obtain ⟨h1, h2, h3⟩ := round_c encI x.kids hk j hj
    obtain ⟨k0, k1, k2⟩ := hlook x.kids[j] (List.getElem_mem hj)
    have htake : (x.kids.take (j + 1)).map look = (x.kids.take j).map look ++ [look x.kids[j]] := by
      rw [List.take_succ_eq_append_getElem hj, List.map_append]; rfl
    have hlen : ((x.kids.take j).map look).length = j := by simp; omega
    have hjj : j + 1 ≤ 1073741824 := by omega
    unfold g160a
    rw [htake]
    generalize x.kids[j] = k at *
    obtain ⟨m, rfl⟩ : ∃ m : Nat, k = m := ⟨k.toNat, by omega⟩
    rw [show ((m : Int).toNat) = m from rfl] at k2
    generalize look (m : Int) = t at *
    obtain ⟨tc, htc, hdt⟩ := enc_vptr t
    generalize hks : (x.kids.take j).map look = ks at *
    have hall := all_Trees ks
    have hdT := data_Trees ks
    rcases Nat.eq_zero_or_pos j with hz | hz
    · have : ks = [] := List.length_eq_zero_iff.1 (by omega)
      subst this
      have o1 : ownAt 3 j = some none := by rw [hz]; rfl
      have o2 : tailAt 1 j = [] := by rw [hz]; rfl
      have o3 : j + 1 = 1 := by omega
      unfold fn160_l0
      simp -implicitDefEqProofs only [code_skip, code_ops, code_draw, code_seq, code_cond, code_block, ops_cons, ops_nil, aOp, opd, upd_at, upd_none, kt_cons, stepVal, stepHeap, aBin, aInt, aIndexList, isShift, aWanted, aLoad1, aStore, aField, leaf, acells_int, acells_list, acells_vptr, cellsSet, gc_mk, isTrim_cons, gcIds_mk, newIds_nil, newIds_cons, gcMap_at, posOf, ren, renC, renO_box, renO_tail, idsV, idsC, idsO_box, draw_eq, opsH_nil, opsH_cons, isLoud, aAppend, wipe_vptr, isData_list_none, isData_list_full, isData_list_tail, isData_int, isData_vptr, isData_ptr, isDataL_nil, isDataL_cons, Option.getD_some, List.map_cons, List.map_nil, List.flatMap_cons, List.flatMap_nil, List.length_cons, List.length_nil, List.cons_append, List.nil_append, List.append_nil, List.getElem?_cons_zero, List.getElem?_cons_succ, List.set_cons_zero, List.set_cons_succ, List.take_succ_cons, List.take_zero, List.drop_succ_cons, List.drop_zero, List.all_cons, List.all_nil, List.not_mem_nil, ↓reduceIte, Bool.and_true, Bool.false_eq_true, and_true, not_false_eq_true, decide_true, decide_false, and_self, Nat.le_refl, reduceCtorEq, Nat.zero_add, Nat.reduceEqDiff, Nat.reduceAdd, Nat.reduceLT, Nat.reduceLeDiff, Int.toNat_natCast, Int.natCast_nonneg, List.cons_ne_nil, roundF_eq, maxLen_eq, checksP_nil, drawTo_if, kt_nil, Int.cast_ofNat_Int, ownAt_succ, tailAt_succ, encI_eq, data_Ints, data_Alts, isData_vec, idsO_vec, renO_vec, Nat.mul_one, h1, h2, h3, k0, k1, k2, hid, hre, hdE, o1, o2, o3, htc, hdt]
    · have o1 := ownAt_pos (b := 3) hz
      have o2 := tailAt_pos (sz := 1) hz
      unfold fn160_l0
      simp -implicitDefEqProofs only [code_skip, code_ops, code_draw, code_seq, code_cond, code_block, ops_cons, ops_nil, aOp, opd, upd_at, upd_none, kt_cons, stepVal, stepHeap, aBin, aInt, aIndexList, isShift, aWanted, aLoad1, aStore, aField, leaf, acells_int, acells_list, acells_vptr, cellsSet, gc_mk, isTrim_cons, gcIds_mk, newIds_nil, newIds_cons, gcMap_at, posOf, ren, renC, renO_box, renO_tail, idsV, idsC, idsO_box, draw_eq, opsH_nil, opsH_cons, isLoud, aAppend, wipe_vptr, isData_list_none, isData_list_full, isData_list_tail, isData_int, isData_vptr, isData_ptr, isDataL_nil, isDataL_cons, isDataL_append, Option.getD_some, List.map_cons, List.map_nil, List.flatMap_cons, List.flatMap_nil, List.length_cons, List.length_nil, List.length_map, List.cons_append, List.nil_append, List.append_nil, List.getElem?_cons_zero, List.getElem?_cons_succ, List.set_cons_zero, List.set_cons_succ, List.take_succ_cons, List.take_zero, List.drop_succ_cons, List.drop_zero, List.all_cons, List.all_nil, List.not_mem_nil, ↓reduceIte, Bool.and_true, Bool.false_eq_true, and_true, not_false_eq_true, decide_true, decide_false, and_self, Nat.le_refl, reduceCtorEq, Nat.zero_add, Nat.reduceEqDiff, Nat.reduceAdd, Nat.reduceLT, Nat.reduceLeDiff, Int.toNat_natCast, Int.natCast_nonneg, List.cons_ne_nil, roundF_eq, maxLen_eq, checksP_nil, drawTo_if, List.map_append, kt_nil, ownAt_succ, tailAt_succ, encI_eq, data_Ints, data_Alts, isData_vec, idsO_vec, renO_vec, Nat.mul_one, h1, h2, h3, k0, k1, k2, hid, hre, hdE, hall, hdT, hlen, hjj, o1, o2, htc, hdt]
  · have h0 := append_c x.kids.length
    unfold g160a g160b
    rw [List.take_length]
    have hdT := data_Trees (x.kids.map look)
    generalize x.kids.map look = ks at *
    unfold fn160_l0
    rcases own_cases 3 1 x.kids.length with ⟨o1, o2⟩ | ⟨o1, o2⟩ <;> simp -implicitDefEqProofs only [code_ops, code_seq, code_cond, code_exit, ops_cons, ops_nil, aOp, opd, upd_at, kt_cons, stepVal, aBin, aInt, isShift, gcE, gc_mk, isTrim_cons, gcIds_mk, newIds_nil, newIds_cons, gcMap_at, posOf, ren, renC, renO_box, renO_tail, idsV, idsC, idsO_box, isData_list_none, isData_list_full, isData_list_tail, isData_int, isData_ptr, isDataL_nil, Option.getD_some, List.map_cons, List.map_nil, List.flatMap_cons, List.flatMap_nil, List.length_cons, List.length_nil, List.cons_append, List.nil_append, List.append_nil, List.getElem?_cons_zero, List.getElem?_cons_succ, List.take_succ_cons, List.take_zero, List.take_nil, List.not_mem_nil, ↓reduceIte, Bool.false_eq_true, and_true, not_false_eq_true, decide_false, and_self, Nat.le_refl, reduceCtorEq, Nat.zero_add, Nat.reduceEqDiff, Nat.reduceAdd, Nat.reduceLT, Nat.reduceLeDiff, roundF_eq, kt_nil, data_Ints, data_Alts, isData_vec, idsO_vec, renO_vec, h0, o1, o2, hid, hre, hdE, hdT]
def g160c (e : List CExpr) (i : Nat) (x : CExpr) (cs : List AVal) (K : List CTree) (j : Nat) : St :=
  ⟨kt [0, 3, 4, 6, 14, 15, 16, 52, 53, 54] [.list (e.map encExpr) none, .vec 0 e.length, .int .i64 i, .ptr (some (2, 0)), .list (e.map encExpr) none, .int .i64 e.length, .int .i64 i, .list (x.alts.map encAlt) none, .int .i64 x.alts.length, .int .i64 j],
    [.vec cs 1, .box [.int .i64 x.op, .int .i64 x.n, .list (x.binds.map encI) none, .list (x.kids.map encI) none, .list (x.alts.map encAlt) none],
      .box [.int .i64 x.op, .int .i64 x.n, .list (x.binds.map encI) none, .list (K.map encTree) (ownAt 3 K.length), .list ((x.alts.take j).map encAlt) (ownAt (3 + (tailAt 1 K.length).length) j)]] ++ tailAt 1 K.length ++ tailAt 2 j⟩
def g160d (e : List CExpr) (i : Nat) (x : CExpr) (cs : List AVal) (K : List CTree) : St :=
  ⟨kt [0, 3, 4, 6, 14, 15, 16] [.list (e.map encExpr) none, .vec 0 e.length, .int .i64 i, .ptr (some (2, 0)), .list (e.map encExpr) none, .int .i64 e.length, .int .i64 i],
    [.vec cs 1, .box [.int .i64 x.op, .int .i64 x.n, .list (x.binds.map encI) none, .list (x.kids.map encI) none, .list (x.alts.map encAlt) none],
      .box [.int .i64 x.op, .int .i64 x.n, .list (x.binds.map encI) none, .list (K.map encTree) (ownAt 3 K.length), .list (x.alts.map encAlt) (ownAt (3 + (tailAt 1 K.length).length) x.alts.length)]] ++ tailAt 1 K.length ++ tailAt 2 x.alts.length⟩
include hL
theorem grow_l1 {sortI : List Int → List Int} (hP : CPrims L sortI) (e : List CExpr) (i : Nat) (x : CExpr) (ha : x.alts.length < 2 ^ 30) (hab : ∀ a ∈ x.alts, a.binds.length < 2 ^ 30) (cs : List AVal) (hcs : isDataL cs = true) (K : List CTree) :
    loopF L.pure (call L) (3 + (tailAt 1 K.length).length) [0, 3, 4, 6, 14, 15, 16, 52, 53, 54] [0, 3, 4, 6, 14, 15, 16] 4 fn160_l1 (g160c e i x cs K 0) = some (.normal, g160d e i x cs K) := by
  have hp := hL.pure
  have hdE := data_Exprs e
  have hid := ids_data hcs
  have hre := fun ρ => ren_data ρ hcs
  have hdT := data_Trees K
  refine loopF_count (g160c e i x cs K) x.alts.length ?_ ?_
  · intro j hj
    obtain ⟨h1, h2, h3⟩ := round_c encAlt x.alts ha j hj
    have htake : (x.alts.take (j + 1)).map encAlt = (x.alts.take j).map encAlt ++ [encAlt x.alts[j]] := by
      rw [List.take_succ_eq_append_getElem hj, List.map_append]; rfl
    have hlen : (x.alts.take j).length = j := by simp; omega
    have hjj : j + 1 ≤ 1073741824 := by omega
    have hc := hP.clone x.alts[j].binds
    have hb := hab x.alts[j] (List.getElem_mem hj)
    unfold g160c
    rw [htake]
    generalize x.alts[j] = a at *
    have hc := fun h => hc h hb
    generalize hks : x.alts.take j = ks at *
    have hall := all_Alts ks
    have hdA := data_Alts ks
    rcases own_cases 3 1 K.length with ⟨k1, k2⟩ | ⟨k1, k2⟩
    · rw [k1, k2]
      simp only [List.length_nil, Nat.add_zero, List.append_nil]
      rcases Nat.eq_zero_or_pos j with hz | hz
      · have : ks = [] := List.length_eq_zero_iff.1 (by omega)
        subst this
        have o1 : ownAt 3 j = some none := by rw [hz]; rfl
        have o2 : tailAt 2 j = [] := by rw [hz]; rfl
        have o3 : j + 1 = 1 := by omega
        unfold fn160_l1
        simp -implicitDefEqProofs only [code_skip, code_ops, code_draw, code_seq, code_cond, code_block, ops_cons, ops_nil, aOp, opd, upd_at, upd_none, kt_cons, stepVal, stepHeap, aBin, aInt, aIndexList, isShift, aWanted, aLoad1, aStore, readAt, aField, fillA, known, leaf, acells_agg, acells_int, acells_list, cellsSet, gc_mk, isTrim_cons, gcIds_mk, newIds_nil, newIds_cons, gcMap_at, posOf, ren, renC, renO_box, renO_tail, idsV, idsC, idsO_box, draw_eq, opsH_nil, opsH_cons, isLoud, aAppend, wipe_agg, wipe_list, wipeC_list, wipeC_int, isData_list_none, isData_list_full, isData_list_tail, isData_int, isData_agg, isData_ptr, isDataL_nil, isDataL_cons, Option.map_some, Option.getD_some, List.map_cons, List.map_nil, List.flatMap_cons, List.flatMap_nil, List.length_cons, List.length_nil, List.cons_append, List.nil_append, List.append_nil, List.getElem?_cons_zero, List.getElem?_cons_succ, List.set_cons_zero, List.set_cons_succ, List.take_succ_cons, List.take_zero, List.drop_succ_cons, List.drop_zero, List.take_nil, List.drop_nil, List.all_cons, List.all_nil, List.not_mem_nil, ↓reduceIte, Bool.and_true, Bool.false_eq_true, and_true, not_false_eq_true, decide_true, decide_false, and_self, Nat.le_refl, reduceCtorEq, Nat.add_zero, Nat.zero_add, Nat.reduceEqDiff, Nat.reduceAdd, Nat.reduceLT, Nat.reduceLeDiff, Int.toNat_natCast, Int.natCast_nonneg, List.cons_ne_nil, roundF_eq, maxLen_eq, checksP_nil, drawTo_if, kt_nil, Int.cast_ofNat_Int, onlyVal, ownAt_succ, tailAt_succ, encAlt_eq, data_Ints, data_Alts, isData_vec, idsO_vec, renO_vec, h1, h2, h3, hc, hid, hre, hdE, hdT, o1, o2, o3, doCall_p L hp, hp]
      · have o1 := ownAt_pos (b := 3) hz
        have o2 := tailAt_pos (sz := 2) hz
        unfold fn160_l1
        simp -implicitDefEqProofs only [code_skip, code_ops, code_draw, code_seq, code_cond, code_block, ops_cons, ops_nil, aOp, opd, upd_at, upd_none, kt_cons, stepVal, stepHeap, aBin, aInt, aIndexList, isShift, aWanted, aLoad1, aStore, readAt, aField, fillA, known, leaf, acells_agg, acells_int, acells_list, cellsSet, gc_mk, isTrim_cons, gcIds_mk, newIds_nil, newIds_cons, gcMap_at, posOf, ren, renC, renO_box, renO_tail, idsV, idsC, idsO_box, draw_eq, opsH_nil, opsH_cons, isLoud, aAppend, wipe_agg, wipe_list, wipeC_list, wipeC_int, isData_list_none, isData_list_full, isData_list_tail, isData_int, isData_agg, isData_ptr, isDataL_nil, isDataL_cons, isDataL_append, Option.map_some, Option.getD_some, List.map_cons, List.map_nil, List.flatMap_cons, List.flatMap_nil, List.length_cons, List.length_nil, List.length_map, List.cons_append, List.nil_append, List.append_nil, List.getElem?_cons_zero, List.getElem?_cons_succ, List.set_cons_zero, List.set_cons_succ, List.take_succ_cons, List.take_zero, List.drop_succ_cons, List.drop_zero, List.take_nil, List.drop_nil, List.all_cons, List.all_nil, List.not_mem_nil, ↓reduceIte, Bool.and_true, Bool.false_eq_true, and_true, not_false_eq_true, decide_true, decide_false, and_self, Nat.le_refl, reduceCtorEq, Nat.add_zero, Nat.zero_add, Nat.reduceEqDiff, Nat.reduceAdd, Nat.reduceLT, Nat.reduceLeDiff, Int.toNat_natCast, Int.natCast_nonneg, List.cons_ne_nil, roundF_eq, maxLen_eq, checksP_nil, drawTo_if, kt_nil, onlyVal, ownAt_succ, tailAt_succ, encAlt_eq, data_Ints, data_Alts, isData_vec, idsO_vec, renO_vec, h1, h2, h3, hc, hid, hre, hdE, hdT, hall, hdA, hlen, hjj, o1, o2, doCall_p L hp, hp]
    · rw [k1, k2]
      simp only [List.length_cons, List.length_nil, Nat.zero_add, Nat.reduceAdd]
      rcases Nat.eq_zero_or_pos j with hz | hz
      · have : ks = [] := List.length_eq_zero_iff.1 (by omega)
        subst this
        have o1 : ownAt 4 j = some none := by rw [hz]; rfl
        have o2 : tailAt 2 j = [] := by rw [hz]; rfl
        have o3 : j + 1 = 1 := by omega
        unfold fn160_l1
        simp -implicitDefEqProofs only [code_skip, code_ops, code_draw, code_seq, code_cond, code_block, ops_cons, ops_nil, aOp, opd, upd_at, upd_none, kt_cons, stepVal, stepHeap, aBin, aInt, aIndexList, isShift, aWanted, aLoad1, aStore, readAt, aField, fillA, known, leaf, acells_agg, acells_int, acells_list, cellsSet, gc_mk, isTrim_cons, gcIds_mk, newIds_nil, newIds_cons, gcMap_at, posOf, ren, renC, renO_box, renO_tail, idsV, idsC, idsO_box, idsO_tail, draw_eq, opsH_nil, opsH_cons, isLoud, aAppend, wipe_agg, wipe_list, wipeC_list, wipeC_int, isData_list_none, isData_list_tail, isData_int, isData_agg, isData_ptr, isDataL_nil, isDataL_cons, Option.map_some, Option.getD_some, List.map_cons, List.map_nil, List.flatMap_cons, List.flatMap_nil, List.length_cons, List.length_nil, List.cons_append, List.nil_append, List.append_nil, List.getElem?_cons_zero, List.getElem?_cons_succ, List.set_cons_zero, List.set_cons_succ, List.take_succ_cons, List.take_zero, List.drop_succ_cons, List.drop_zero, List.take_nil, List.drop_nil, List.all_cons, List.all_nil, List.not_mem_nil, ↓reduceIte, Bool.and_true, Bool.false_eq_true, and_true, not_false_eq_true, decide_true, decide_false, and_self, Nat.le_refl, reduceCtorEq, Nat.add_zero, Nat.zero_add, Nat.reduceEqDiff, Nat.reduceAdd, Nat.reduceLT, Nat.reduceLeDiff, Int.toNat_natCast, Int.natCast_nonneg, List.cons_ne_nil, roundF_eq, maxLen_eq, checksP_nil, drawTo_if, kt_nil, Int.cast_ofNat_Int, onlyVal, ownAt_succ, tailAt_succ, encAlt_eq, data_Ints, data_Alts, isData_vec, idsO_vec, renO_vec, h1, h2, h3, hc, hid, hre, hdE, hdT, o1, o2, o3, doCall_p L hp, hp]
      · have o1 := ownAt_pos (b := 4) hz
        have o2 := tailAt_pos (sz := 2) hz
        unfold fn160_l1
        simp -implicitDefEqProofs only [code_skip, code_ops, code_draw, code_seq, code_cond, code_block, ops_cons, ops_nil, aOp, opd, upd_at, upd_none, kt_cons, stepVal, stepHeap, aBin, aInt, aIndexList, isShift, aWanted, aLoad1, aStore, readAt, aField, fillA, known, leaf, acells_agg, acells_int, acells_list, cellsSet, gc_mk, isTrim_cons, gcIds_mk, newIds_nil, newIds_cons, gcMap_at, posOf, ren, renC, renO_box, renO_tail, idsV, idsC, idsO_box, idsO_tail, draw_eq, opsH_nil, opsH_cons, isLoud, aAppend, wipe_agg, wipe_list, wipeC_list, wipeC_int, isData_list_none, isData_list_tail, isData_int, isData_agg, isData_ptr, isDataL_nil, isDataL_cons, isDataL_append, Option.map_some, Option.getD_some, List.map_cons, List.map_nil, List.flatMap_cons, List.flatMap_nil, List.length_cons, List.length_nil, List.length_map, List.cons_append, List.nil_append, List.append_nil, List.getElem?_cons_zero, List.getElem?_cons_succ, List.set_cons_zero, List.set_cons_succ, List.take_succ_cons, List.take_zero, List.drop_succ_cons, List.drop_zero, List.take_nil, List.drop_nil, List.all_cons, List.all_nil, List.not_mem_nil, ↓reduceIte, Bool.and_true, Bool.false_eq_true, and_true, not_false_eq_true, decide_true, decide_false, and_self, Nat.le_refl, reduceCtorEq, Nat.add_zero, Nat.zero_add, Nat.reduceEqDiff, Nat.reduceAdd, Nat.reduceLT, Nat.reduceLeDiff, Int.toNat_natCast, Int.natCast_nonneg, List.cons_ne_nil, roundF_eq, maxLen_eq, checksP_nil, drawTo_if, kt_nil, onlyVal, ownAt_succ, tailAt_succ, encAlt_eq, data_Ints, data_Alts, isData_vec, idsO_vec, renO_vec, h1, h2, h3, hc, hid, hre, hdE, hdT, hall, hdA, hlen, hjj, o1, o2, doCall_p L hp, hp]
  · have h0 := append_c x.alts.length
    have hdA := data_Alts x.alts
    unfold g160c g160d
    rw [List.take_length]
    rcases own_cases 3 1 K.length with ⟨k1, k2⟩ | ⟨k1, k2⟩ <;> rw [k1, k2] <;> simp only [List.length_cons, List.length_nil, Nat.add_zero, Nat.zero_add, Nat.reduceAdd, List.append_nil] <;> unfold fn160_l1
    · rcases own_cases 3 2 x.alts.length with ⟨o1, o2⟩ | ⟨o1, o2⟩ <;> simp -implicitDefEqProofs only [code_ops, code_seq, code_cond, code_exit, ops_cons, ops_nil, aOp, opd, upd_at, kt_cons, stepVal, aBin, aInt, isShift, gcE, gc_mk, isTrim_cons, gcIds_mk, newIds_nil, newIds_cons, gcMap_at, posOf, ren, renC, renO_box, renO_tail, idsV, idsC, idsO_box, isData_list_none, isData_list_full, isData_list_tail, isData_int, isData_ptr, Option.getD_some, List.map_cons, List.map_nil, List.flatMap_cons, List.flatMap_nil, List.length_cons, List.length_nil, List.cons_append, List.nil_append, List.append_nil, List.getElem?_cons_zero, List.getElem?_cons_succ, List.take_succ_cons, List.take_zero, List.take_nil, List.not_mem_nil, ↓reduceIte, Bool.false_eq_true, and_true, not_false_eq_true, decide_false, and_self, Nat.le_refl, reduceCtorEq, Nat.zero_add, Nat.reduceEqDiff, Nat.reduceAdd, Nat.reduceLT, Nat.reduceLeDiff, roundF_eq, kt_nil, data_Ints, isData_vec, idsO_vec, renO_vec, h0, o1, o2, hid, hre, hdE, hdT, hdA]
    · rcases own_cases 4 2 x.alts.length with ⟨o1, o2⟩ | ⟨o1, o2⟩ <;> simp -implicitDefEqProofs only [code_ops, code_seq, code_cond, code_exit, ops_cons, ops_nil, aOp, opd, upd_at, kt_cons, stepVal, aBin, aInt, isShift, gcE, gc_mk, isTrim_cons, gcIds_mk, newIds_nil, newIds_cons, gcMap_at, posOf, ren, renC, renO_box, renO_tail, idsV, idsC, idsO_box, idsO_tail, isData_list_none, isData_list_full, isData_list_tail, isData_int, isData_ptr, Option.getD_some, List.map_cons, List.map_nil, List.flatMap_cons, List.flatMap_nil, List.length_cons, List.length_nil, List.cons_append, List.nil_append, List.append_nil, List.getElem?_cons_zero, List.getElem?_cons_succ, List.take_succ_cons, List.take_zero, List.take_nil, List.not_mem_nil, ↓reduceIte, Bool.false_eq_true, and_true, not_false_eq_true, decide_false, and_self, Nat.le_refl, reduceCtorEq, Nat.zero_add, Nat.reduceEqDiff, Nat.reduceAdd, Nat.reduceLT, Nat.reduceLeDiff, roundF_eq, kt_nil, data_Ints, isData_vec, idsO_vec, renO_vec, h0, o1, o2, hid, hre, hdE, hdT, hdA]
def cellsAt (e : List CExpr) (i : Nat) : List AVal := (growAll (e.take i)).map encTree ++ List.replicate (e.length - i) (.ptr none)
end
section
theorem growAll_succ (e : List CExpr) (i : Nat) (hi : i < e.length) : growAll (e.take (i + 1)) = growStep (growAll (e.take i)) e[i] := by
  unfold growAll
  rw [List.take_succ_eq_append_getElem hi, List.foldl_append]
  rfl
theorem growAll_length : ∀ (e : List CExpr) (ts : List CTree), (e.foldl growStep ts).length = ts.length + e.length
  | [], ts => rfl
  | x :: e, ts => by
    rw [List.foldl_cons, growAll_length e]
    simp [growStep]
    omega
theorem growAll_len (e : List CExpr) : (growAll e).length = e.length := by
  unfold growAll
  rw [growAll_length]
  simp
theorem growTake_len (e : List CExpr) (i : Nat) (hi : i ≤ e.length) : (growAll (e.take i)).length = i := by
  rw [growAll_len]
  simp
  omega
theorem cells_data (e : List CExpr) (i : Nat) : isDataL (cellsAt e i) = true := by
  unfold cellsAt
  rw [isDataL_append, data_Trees, Bool.true_and]
  generalize e.length - i = m
  induction m with
  | zero => rfl
  | succ m ih => rw [List.replicate_succ, isDataL, ih]; rfl
theorem cells_len (e : List CExpr) (i : Nat) (hi : i ≤ e.length) : (cellsAt e i).length = e.length := by
  unfold cellsAt
  simp [growTake_len e i hi]
  omega
theorem cells_get (e : List CExpr) (i k : Nat) (hi : i ≤ e.length) (hk : k < i) : (cellsAt e i)[k]? = some (encTree ((growAll (e.take i)).getD k .none)) := by
  have hl := growTake_len e i hi
  unfold cellsAt
  rw [List.getElem?_append_left (by simp [hl, hk]), List.getElem?_map, List.getD_eq_getElem?_getD, List.getElem?_eq_getElem (by omega)]
  rfl
theorem cells_put (e : List CExpr) (i : Nat) (hi : i < e.length) : (cellsAt e i).take i ++ encTree (.mk e[i].op e[i].n e[i].binds (e[i].kids.map fun k => (growAll (e.take i)).getD k.toNat .none) e[i].alts) :: (cellsAt e i).drop (i + 1) = cellsAt e (i + 1) := by
  have hl := growTake_len e i (by omega)
  unfold cellsAt
  rw [growAll_succ e i hi]
  unfold growStep
  rw [List.take_append_of_le_length (by simp [hl]), List.take_of_length_le (by simp [hl])]
  rw [List.drop_append, List.drop_of_length_le (by simp [hl])]
  simp only [List.length_map, hl, List.nil_append, List.drop_replicate, List.map_append, List.map_cons, List.map_nil, List.append_assoc, List.cons_append]
  congr 2
  congr 1
  omega
theorem cells_frz (e : List CExpr) (i id sz : Nat) (cs : List AVal) : (cellsAt e i).map (frz id sz cs) = cellsAt e i := by
  unfold cellsAt
  rw [List.map_append, List.map_map, List.map_replicate]
  congr 1
  refine List.map_congr_left fun t _ => ?_
  obtain ⟨tc, htc, _⟩ := enc_vptr t
  simp only [Function.comp, htc]
  rfl
def g160e (e : List CExpr) (i : Nat) : St := ⟨kt [0, 3, 14, 15, 16] [.list (e.map encExpr) none, .vec 0 e.length, .list (e.map encExpr) none, .int .i64 e.length, .int .i64 i], [.vec (cellsAt e i) 1]⟩
variable {L : Lib} (hL : Plain L)
include hL
theorem grow_l2 {sortI : List Int → List Int} (hP : CPrims L sortI) (e : List CExpr) (hl : e.length < 2 ^ 30) (hf : ∀ x ∈ e, NodeFit x) (hk : Ahead e) :
    loopF L.pure (call L) 1 [0, 3, 14, 15, 16] [0, 3] 0 fn160_l2 (g160e e 0) = some (.normal, ⟨kt [0, 3] [.list (e.map encExpr) none, .vec 0 e.length], [.vec (cellsAt e e.length) 1]⟩) := by
  have hp := hL.pure
  have hdE := data_Exprs e
  refine loopF_count (g160e e) e.length ?_ ?_
  · intro i hi
    obtain ⟨h1, h2, h3⟩ := round_c encExpr e hl i hi
    have hx := hf e[i] (List.getElem_mem hi)
    have hcs := cells_data e i
    have hid := ids_data hcs
    have hre := fun ρ => ren_data ρ hcs
    have hid' := ids_data (cells_data e (i + 1))
    have hre' := fun ρ => ren_data ρ (cells_data e (i + 1))
    have hfz := fun id sz cs => cells_frz e i id sz cs
    have hput := cells_put e i hi
    have hcl := cells_len e i (by omega)
    have hclone := fun h => hP.clone e[i].binds h hx.binds
    have hl0 := grow_l0 (L := L) e i e[i] hx.kids (cellsAt e i) hcs (fun k => (growAll (e.take i)).getD k.toNat .none) (by
      intro k hkm
      obtain ⟨k0, k1⟩ := hk i hi k hkm
      exact ⟨k0, by omega, cells_get e i k.toNat (by omega) (by omega)⟩)
    have hl1 := grow_l1 hL hP e i e[i] hx.alts hx.each (cellsAt e i) hcs (e[i].kids.map fun k => (growAll (e.take i)).getD k.toNat .none)
    rw [encTree_eq] at hput
    unfold g160e
    generalize cellsAt e (i + 1) = cs' at *
    generalize cellsAt e i = cs at *
    generalize e[i] = x at *
    have hKl : (x.kids.map fun k => (growAll (e.take i)).getD k.toNat .none).length = x.kids.length := by simp
    unfold g160a g160b at hl0
    unfold g160c g160d at hl1
    rw [hKl] at hl1
    generalize (x.kids.map fun k => (growAll (e.take i)).getD k.toNat .none) = K at *
    have hdT := data_Trees K
    have hcl' : i + 1 ≤ cs.length := by omega
    simp only [List.take_zero, List.map_nil, ownAt_zero, tailAt_zero, List.append_nil, Int.natCast_zero] at hl0 hl1
    have b4 : ((i : Int) < e.length) := by omega
    rcases own_cases 3 1 x.kids.length with ⟨k1, k2⟩ | ⟨k1, k2⟩ <;> rw [k1, k2] at hl0 hl1 <;> simp only [List.length_cons, List.length_nil, Nat.add_zero, Nat.zero_add, Nat.reduceAdd, List.append_nil, List.cons_append, List.nil_append] at hl0 hl1
    · rcases own_cases 3 2 x.alts.length with ⟨o1, o2⟩ | ⟨o1, o2⟩ <;> rw [o1, o2] at hl1 <;> unfold fn160_l2 <;>
        simp -implicitDefEqProofs only [code_skip, code_ops, code_draw, code_seq, code_cond, code_block, ops_cons, ops_nil, aOp, opd, upd_at, upd_none, kt_cons, stepVal, stepHeap, aBin, aLen, aInt, aIndexList, isShift, aWanted, aLoad1, aStore, readAt, aField, fillA, known, leaf, acells_agg, acells_int, acells_list, acells_vptr, cellsSet, code_loopF, gc_mk, isTrim_cons, gcIds_mk, newIds_nil, newIds_cons, gcMap_at, posOf, ren, renC, renO_box, idsV, idsC, idsO_box, draw_eq, opsH_nil, opsH_cons, isLoud, wipe_list, wipeC_list, wipeC_int, isData_list_none, isData_list_full, isData_int, isData_ptr, isDataL_nil, isDataL_cons, Option.map_some, List.map_cons, List.map_nil, List.flatMap_cons, List.flatMap_nil, List.length_cons, List.length_nil, List.length_map, List.cons_append, List.nil_append, List.append_nil, List.append_assoc, List.getElem?_cons_zero, List.getElem?_cons_succ, List.set_cons_zero, List.set_cons_succ, List.take_succ_cons, List.take_zero, List.drop_succ_cons, List.drop_zero, List.take_nil, List.drop_nil, List.all_cons, List.all_nil, List.not_mem_nil, ↓reduceIte, Bool.and_true, Bool.false_eq_true, and_true, false_and, not_false_eq_true, decide_true, decide_false, and_self, Nat.le_refl, reduceCtorEq, Nat.add_zero, Nat.zero_add, Nat.reduceEqDiff, Nat.reduceAdd, Nat.reduceLT, Nat.reduceLeDiff, Int.toNat_natCast, Int.natCast_nonneg, roundF_eq, checksP_nil, drawTo_if, kt_nil, code_freeze, freezeS_mk, frzAt_mk, frzT_at, frz, frzC, frzO, onlyVal, encExpr_eq, data_Ints, data_Alts, isData_vec, idsO_vec, renO_vec, Nat.mul_one, h1, h2, h3, hclone, hl0, hl1, hid, hre, hid', hre', hfz, hput, hdE, hdT, hcl', b4, doCall_p L hp, hp]
    · rcases own_cases 4 2 x.alts.length with ⟨o1, o2⟩ | ⟨o1, o2⟩ <;> rw [o1, o2] at hl1 <;> unfold fn160_l2 <;>
        simp -implicitDefEqProofs only [code_skip, code_ops, code_draw, code_seq, code_cond, code_block, ops_cons, ops_nil, aOp, opd, upd_at, upd_none, kt_cons, stepVal, stepHeap, aBin, aLen, aInt, aIndexList, isShift, aWanted, aLoad1, aStore, readAt, aField, fillA, known, leaf, acells_agg, acells_int, acells_list, acells_vptr, cellsSet, code_loopF, gc_mk, isTrim_cons, gcIds_mk, newIds_nil, newIds_cons, gcMap_at, posOf, ren, renC, renO_box, renO_tail, idsV, idsC, idsO_box, idsO_tail, draw_eq, opsH_nil, opsH_cons, isLoud, wipe_list, wipeC_list, wipeC_int, isData_list_none, isData_list_full, isData_list_tail, isData_int, isData_ptr, isDataL_nil, isDataL_cons, Option.map_some, List.map_cons, List.map_nil, List.flatMap_cons, List.flatMap_nil, List.length_cons, List.length_nil, List.length_map, List.cons_append, List.nil_append, List.append_nil, List.append_assoc, List.getElem?_cons_zero, List.getElem?_cons_succ, List.set_cons_zero, List.set_cons_succ, List.take_succ_cons, List.take_zero, List.drop_succ_cons, List.drop_zero, List.take_nil, List.drop_nil, List.all_cons, List.all_nil, List.not_mem_nil, ↓reduceIte, Bool.and_true, Bool.false_eq_true, and_true, false_and, not_false_eq_true, decide_true, decide_false, and_self, Nat.le_refl, reduceCtorEq, Nat.add_zero, Nat.zero_add, Nat.reduceEqDiff, Nat.reduceAdd, Nat.reduceLT, Nat.reduceLeDiff, Int.toNat_natCast, Int.natCast_nonneg, roundF_eq, checksP_nil, drawTo_if, kt_nil, code_freeze, freezeS_mk, frzAt_mk, frzT_at, frz, frzC, frzO, onlyVal, encExpr_eq, data_Ints, data_Alts, isData_vec, idsO_vec, renO_vec, Nat.mul_one, h1, h2, h3, hclone, hl0, hl1, hid, hre, hid', hre', hfz, hput, hdE, hdT, hcl', b4, doCall_p L hp, hp]
  · have h0 := append_c e.length
    have hid := ids_data (cells_data e e.length)
    have hre := fun ρ => ren_data ρ (cells_data e e.length)
    unfold g160e
    generalize cellsAt e e.length = cs at *
    unfold fn160_l2
    simp -implicitDefEqProofs only [code_ops, code_seq, code_cond, code_exit, ops_cons, ops_nil, aOp, opd, upd_at, kt_cons, stepVal, aBin, aInt, isShift, gcE, gc_mk, isTrim_cons, gcIds_mk, newIds_nil, newIds_cons, gcMap_at, posOf, ren, renC, idsV, idsC, isData_list_none, List.map_cons, List.map_nil, List.flatMap_cons, List.flatMap_nil, List.length_cons, List.length_nil, List.nil_append, List.append_nil, List.take_succ_cons, List.take_nil, List.not_mem_nil, ↓reduceIte, Bool.false_eq_true, and_true, not_false_eq_true, decide_false, Nat.le_refl, reduceCtorEq, Nat.zero_add, Nat.reduceEqDiff, Nat.reduceLT, Nat.reduceLeDiff, roundF_eq, kt_nil, isData_vec, idsO_vec, renO_vec, h0, hid, hre, hdE]
theorem grow_ok {sortI : List Int → List Int} (hP : CPrims L sortI) (h160 : L.fns 160 = some fn160) (e : List CExpr) (hl : e.length < 2 ^ 30) (hne : e ≠ []) (hf : ∀ x ∈ e, NodeFit x) (hk : Ahead e) (h : Heap) :
    pcall L 160 [.list (e.map encExpr) none] h = some (.val (encTree (grow1 e)), h) := by
  have hdE := data_Exprs e
  have hpos := List.length_pos_iff.2 hne
  refine pcall_fn hL h160 (data_Tree _) ?_ h
  have hl2 := grow_l2 hL hP e hl hf hk
  have h0 : cellsAt e 0 = List.replicate e.length (.ptr none) := rfl
  have hg := cells_get e e.length (e.length - 1) (by omega) (by omega)
  rw [List.take_length] at hg
  have hid := ids_data (cells_data e e.length)
  have hre := fun ρ => ren_data ρ (cells_data e e.length)
  have hid0 := ids_data (cells_data e 0)
  have hre0 := fun ρ => ren_data ρ (cells_data e 0)
  unfold g160e at hl2
  rw [h0] at hl2 hid0 hre0
  unfold grow1
  obtain ⟨tc, htc, hdt⟩ := enc_vptr ((growAll e).getD (e.length - 1) .none)
  rw [htc] at hg ⊢
  have w : IntKind.i64.wrap ((e.length : Int) - 1) = ((e.length - 1 : Nat) : Int) := by rw [wrap64 (by omega) (by omega)]; omega
  have b : (((e.length - 1 : Nat) : Int) < e.length) := by omega
  have hn : ((e.length : Int) ≤ 1073741824) := by omega
  generalize cellsAt e e.length = cs at *
  simp only [Int.natCast_zero] at hl2
  unfold fn160
  simp -implicitDefEqProofs only [code_ops, code_seq, code_ret, ops_cons, ops_nil, aOp, opd, upd_at, initTm_at, kt_cons, stepVal, aBin, aLen, aInt, aIndexList, isShift, aLoad1, endFn, aResults, aResult, tupled, code_loopF, gc_mk, isTrim_cons, gcIds_mk, newIds_nil, newIds_cons, gcMap_at, posOf, ren, renC, idsV, idsC, isData_list_none, isData_int, Option.getD_some, List.map_cons, List.map_nil, List.flatMap_cons, List.flatMap_nil, List.length_cons, List.length_nil, List.length_map, List.nil_append, List.append_nil, List.getElem?_cons_zero, List.take_succ_cons, List.take_nil, List.not_mem_nil, ↓reduceIte, Bool.false_eq_true, and_true, not_false_eq_true, decide_false, and_self, Nat.le_refl, reduceCtorEq, Nat.zero_add, Nat.reduceEqDiff, Nat.reduceLT, Nat.reduceLeDiff, Int.toNat_natCast, Int.natCast_nonneg, outOf_val, isData_vec, idsO_vec, renO_vec, Nat.mul_one, Int.le_refl, hl2, hid, hre, hid0, hre0, hg, w, b, hn, hdE, wipeR_vptr]
end
end Go.Abs
