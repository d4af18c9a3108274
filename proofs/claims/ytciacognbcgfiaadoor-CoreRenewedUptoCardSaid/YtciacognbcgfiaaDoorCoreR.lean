/-
  The list of a tree: the walk. Conditions: none.
-/
import Derived.Test.YtciacognbcgfiaaDoorCoreQ
import Derived.Test.YtciacognbcgfiaaDoorC
set_option linter.unusedVariables false
set_option linter.unusedSimpArgs false
set_option maxRecDepth 100000
set_option maxHeartbeats 4000000
namespace Go.Abs
theorem tsizes_append : ∀ (a b : List CTree), tsizes (a ++ b) = tsizes a + tsizes b
  | [], b => by rw [List.nil_append, tsizes]; omega
  | x :: a, b => by rw [List.cons_append, tsizes, tsizes, tsizes_append a b]; omega
theorem listTs_snoc : ∀ (ks : List CTree) (k : CTree) (b : Nat), listTs (ks ++ [k]) b = listTs ks b ++ listT k (b + tsizes ks)
  | [], k, b => by rw [List.nil_append, listTs, listTs, listTs, tsizes, List.append_nil]; rfl
  | x :: ks, k, b => by
    rw [List.cons_append, listTs, listTs, listTs_snoc ks k, tsizes, List.append_assoc, Nat.add_assoc]
theorem rootsTs_snoc : ∀ (ks : List CTree) (k : CTree) (b : Nat), rootsTs (ks ++ [k]) b = rootsTs ks b ++ [((b + tsizes ks + tsize k - 1 : Nat) : Int)]
  | [], k, b => by rw [List.nil_append, rootsTs, rootsTs, rootsTs, tsizes]; rfl
  | x :: ks, k, b => by
    rw [List.cons_append, rootsTs, rootsTs, rootsTs_snoc ks k, tsizes]
    rw [show b + tsize x + tsizes ks + tsize k - 1 = b + (tsize x + tsizes ks) + tsize k - 1 by omega]
    rfl
theorem rootsTs_len : ∀ (ks : List CTree) (b : Nat), (rootsTs ks b).length = ks.length
  | [], b => rfl
  | k :: ks, b => by rw [rootsTs, List.length_cons, rootsTs_len ks]; rfl
theorem tsizes_take (ks : List CTree) (j : Nat) (hj : j < ks.length) : tsizes (ks.take (j + 1)) = tsizes (ks.take j) + tsize ks[j] := by
  rw [List.take_succ_eq_append_getElem hj, tsizes_append, tsizes, tsizes]
  omega
theorem tsizes_le (ks : List CTree) (j : Nat) : tsizes (ks.take j) ≤ tsizes ks := by
  conv => rhs; rw [← List.take_append_drop j ks, tsizes_append]
  omega
/-- The heap that the walk sees: itself, and the list. -/
def lh (outs : List CExpr) : Heap := [.box [.func 187 [] [.ptr (some (0, 0)), .ptr (some (1, 0))]], .box [.list (outs.map encExpr) (ownAt 2 outs.length)]] ++ tailAt 5 outs.length
theorem lh_nil : lh [] = [.box [.func 187 [] [.ptr (some (0, 0)), .ptr (some (1, 0))]], .box [.list [] (some none)]] := rfl
theorem lh_pos {outs : List CExpr} (h : 0 < outs.length) : lh outs = [.box [.func 187 [] [.ptr (some (0, 0)), .ptr (some (1, 0))]], .box [.list (outs.map encExpr) (some (some 2))], .tail outs.length 5] := by
  unfold lh
  rw [ownAt_pos h, tailAt_pos h]
  rfl
section
variable {L : Lib} (hL : Plain L)
include hL
def lA (op n : Int) (binds : List Int) (kids : List CTree) (alts : List CAlt) (outs : List CExpr) (ids : List Int) (j : Nat) : St :=
  ⟨kt [0, 1, 2, 5, 27, 28, 29] [.vptr [.int .i64 op, .int .i64 n, .list (binds.map encI) none, .list (kids.map encTree) none, .list (alts.map encAlt) none] 0, .ptr (some (0, 0)), .ptr (some (1, 0)), .ptr (some (3, 0)), .list (kids.map encTree) none, .int .i64 kids.length, .int .i64 j],
    [.box [.func 187 [] [.ptr (some (0, 0)), .ptr (some (1, 0))]], .box [.list (outs.map encExpr) (some (some 2))], .tail outs.length 5, .box [.int .i64 op, .int .i64 n, .list (binds.map encI) none, .list (ids.map encI) (ownAt 4 j), .list [] (some none)]] ++ tailAt 1 j⟩
def lA' (op n : Int) (binds : List Int) (kids : List CTree) (alts : List CAlt) (outs : List CExpr) (ids : List Int) (j : Nat) : St :=
  ⟨kt [0, 2, 5] [.vptr [.int .i64 op, .int .i64 n, .list (binds.map encI) none, .list (kids.map encTree) none, .list (alts.map encAlt) none] 0, .ptr (some (1, 0)), .ptr (some (3, 0))],
    [.box [.func 187 [] [.ptr (some (0, 0)), .ptr (some (1, 0))]], .box [.list (outs.map encExpr) (some (some 2))], .tail outs.length 5, .box [.int .i64 op, .int .i64 n, .list (binds.map encI) none, .list (ids.map encI) (ownAt 4 j), .list [] (some none)]] ++ tailAt 1 j⟩
/-- What is asked of the walk over the kids. -/
def WalkOk (L : Lib) (t : CTree) : Prop := ∀ outs : List CExpr, outs.length + tsize t < 2 ^ 30 → call L 187 [encTree t, .ptr (some (0, 0)), .ptr (some (1, 0))] (lh outs) = some (.val (.int .i64 ((outs.length + tsize t - 1 : Nat) : Int)), lh (outs ++ listT t outs.length))
theorem list_l0A (op n : Int) (binds : List Int) (kids : List CTree) (alts : List CAlt) (outs : List CExpr) (h0 : 0 < outs.length) (hsz : outs.length + tsizes kids < 2 ^ 30) (hkl : kids.length < 2 ^ 30) (ih : ∀ k ∈ kids, WalkOk L k) :
    loopF L.pure (call L) 4 [0, 1, 2, 5, 27, 28, 29] [0, 2, 5] 0 fn187_l0 (lA op n binds kids alts outs [] 0) = some (.normal, lA' op n binds kids alts (outs ++ listTs kids outs.length) (rootsTs kids outs.length) kids.length) := by
  have hp := hL.pure
  have hdT := data_Trees kids
  have hC := loopF_count (pure := L.pure) (call := call L) (b := 4) (keep := [0, 1, 2, 5, 27, 28, 29]) (fk := [0, 2, 5]) (id := 0) (body := fn187_l0)
    (fun j => lA op n binds kids alts (outs ++ listTs (kids.take j) outs.length) (rootsTs (kids.take j) outs.length) j) kids.length (T := lA' op n binds kids alts (outs ++ listTs kids outs.length) (rootsTs kids outs.length) kids.length) ?_ ?_
  · have e0 : listTs (kids.take 0) outs.length = [] := by rw [List.take_zero, listTs]
    have e1 : rootsTs (kids.take 0) outs.length = [] := by rw [List.take_zero, rootsTs]
    simp only [e0, e1, List.append_nil] at hC
    exact hC
  · intro j hj
    obtain ⟨h1, h2, h3⟩ := round_c encTree kids hkl j hj
    have hw := ih kids[j] (List.getElem_mem hj) (outs ++ listTs (kids.take j) outs.length)
    have hlen : (outs ++ listTs (kids.take j) outs.length).length = outs.length + tsizes (kids.take j) := by rw [List.length_append, list_lens]
    have hle := tsizes_le kids (j + 1)
    rw [tsizes_take kids j hj] at hle
    have hrl : (rootsTs (kids.take j) outs.length).length = j := by rw [rootsTs_len]; simp; omega
    have hjj : j + 1 ≤ 1073741824 := by omega
    rw [List.take_succ_eq_append_getElem hj, listTs_snoc, rootsTs_snoc, ← List.append_assoc, ← hlen]
    have hw := hw (by rw [hlen]; omega)
    generalize kids[j] = kid at *
    have hpos : 0 < (outs ++ listTs (kids.take j) outs.length).length := by rw [hlen]; omega
    generalize outs ++ listTs (kids.take j) outs.length = ou at *
    generalize rootsTs (kids.take j) outs.length = ids at *
    have hpos2 : 0 < (ou ++ listT kid ou.length).length := by rw [List.length_append]; omega
    rw [lh_pos hpos, lh_pos hpos2] at hw
    have hdO := data_Exprs ou
    generalize ou ++ listT kid ou.length = ou2 at *
    have hdO2 := data_Exprs ou2
    have hall := all_Ints ids
    have hdI := data_Ints ids
    obtain ⟨tc, htc, hdt⟩ := enc_vptr kid
    rw [htc] at hw
    rcases Nat.eq_zero_or_pos j with hz | hz
    · have : ids = [] := List.length_eq_zero_iff.1 (by omega)
      subst this
      have o1 : ownAt 4 j = some none := by rw [hz]; rfl
      have o2 : tailAt 1 j = [] := by rw [hz]; rfl
      have o3 : j + 1 = 1 := by omega
      unfold fn187_l0 lA
      simp -implicitDefEqProofs only [code_skip, code_ops, code_draw, code_seq, code_cond, code_block, ops_cons, ops_nil, aOp, opd, upd_at, upd_none, kt_cons, stepVal, stepHeap, aBin, aInt, aIndexList, isShift, aWanted, aLoad1, aStore, aField, leaf, acells_int, acells_list, acells_vptr, cellsSet, gc_mk, isTrim_cons, gcIds_mk, newIds_nil, newIds_cons, gcMap_at, posOf, ren, renC, renO_box, renO_tail, idsV, idsC, idsO_box, idsO_tail, draw_eq, opsH_nil, opsH_cons, isLoud, aAppend, wipe_int, wipe_ptr, wipe_vptr, isData_list_none, isData_list_full, isData_list_tail, isData_int, isData_func, isData_vptr, isData_ptr, isDataL_nil, isDataL_cons, Option.getD_some, List.map_cons, List.map_nil, List.flatMap_cons, List.flatMap_nil, List.length_cons, List.length_nil, List.cons_append, List.nil_append, List.append_nil, List.getElem?_cons_zero, List.getElem?_cons_succ, List.set_cons_zero, List.set_cons_succ, List.take_succ_cons, List.take_zero, List.drop_succ_cons, List.drop_zero, List.take_nil, List.all_cons, List.all_nil, List.mem_cons, List.not_mem_nil, ↓reduceIte, Bool.and_true, Bool.and_false, Bool.false_eq_true, and_true, and_false, or_true, or_false, not_true_eq_false, not_false_eq_true, decide_true, decide_false, and_self, Nat.le_refl, Nat.zero_le, reduceCtorEq, Nat.zero_add, Nat.reduceEqDiff, Nat.reduceAdd, Nat.reduceSub, Nat.reduceLT, Nat.reduceLeDiff, Int.toNat_natCast, Int.natCast_nonneg, List.cons_ne_nil, roundF_eq, maxLen_eq, checksP_cons, checksP_nil, checkP_eq, drawTo_if, forall_const, forall_eq_or_imp, forall_eq, kt_nil, Int.cast_ofNat_Int, rCall_eq, rootsOf_eq, grow_eq, subHeap_eq, newOf_val, backRen_at, putBack_eq, pb_nil, pb_cons, backRes_val, ownAt_succ, tailAt_succ, encI_eq, data_Ints, data_Alts, h1, h2, h3, hw, hdT, hdO, hdO2, htc, hdt, o1, o2, o3, doCall_p L hp, hp]
    · have o1 := ownAt_pos (b := 4) hz
      have o2 := tailAt_pos (sz := 1) hz
      unfold fn187_l0 lA
      simp -implicitDefEqProofs only [code_skip, code_ops, code_draw, code_seq, code_cond, code_block, ops_cons, ops_nil, aOp, opd, upd_at, upd_none, kt_cons, stepVal, stepHeap, aBin, aInt, aIndexList, isShift, aWanted, aLoad1, aStore, aField, leaf, acells_int, acells_list, acells_vptr, cellsSet, gc_mk, isTrim_cons, gcIds_mk, newIds_nil, newIds_cons, gcMap_at, posOf, ren, renC, renO_box, renO_tail, idsV, idsC, idsO_box, idsO_tail, draw_eq, opsH_nil, opsH_cons, isLoud, aAppend, wipe_int, wipe_ptr, wipe_vptr, isData_list_none, isData_list_full, isData_list_tail, isData_int, isData_func, isData_vptr, isData_ptr, isDataL_nil, isDataL_cons, isDataL_append, Option.getD_some, List.map_cons, List.map_nil, List.flatMap_cons, List.flatMap_nil, List.length_cons, List.length_nil, List.length_map, List.cons_append, List.nil_append, List.append_nil, List.getElem?_cons_zero, List.getElem?_cons_succ, List.set_cons_zero, List.set_cons_succ, List.take_succ_cons, List.take_zero, List.drop_succ_cons, List.drop_zero, List.take_nil, List.all_cons, List.all_nil, List.mem_cons, List.not_mem_nil, ↓reduceIte, Bool.and_true, Bool.and_false, Bool.false_eq_true, and_true, and_false, or_true, or_false, not_true_eq_false, not_false_eq_true, decide_true, decide_false, and_self, Nat.le_refl, Nat.zero_le, reduceCtorEq, Nat.zero_add, Nat.reduceEqDiff, Nat.reduceAdd, Nat.reduceSub, Nat.reduceLT, Nat.reduceLeDiff, Int.toNat_natCast, Int.natCast_nonneg, List.cons_ne_nil, roundF_eq, maxLen_eq, checksP_cons, checksP_nil, checkP_eq, drawTo_if, forall_const, forall_eq_or_imp, forall_eq, List.map_append, kt_nil, rCall_eq, rootsOf_eq, grow_eq, subHeap_eq, newOf_val, backRen_at, putBack_eq, pb_nil, pb_cons, backRes_val, ownAt_succ, tailAt_succ, encI_eq, data_Ints, data_Alts, h1, h2, h3, hw, hdT, hdO, hdO2, htc, hdt, hall, hdI, hrl, hjj, o1, o2, doCall_p L hp, hp]
  · have h0' := append_c kids.length
    rw [List.take_length]
    generalize outs ++ listTs kids outs.length = ou
    have hdO := data_Exprs ou
    have hdI := data_Ints (rootsTs kids outs.length)
    generalize rootsTs kids outs.length = ids at *
    unfold fn187_l0 lA lA'
    rcases own_cases 4 1 kids.length with ⟨o1, o2⟩ | ⟨o1, o2⟩ <;> simp -implicitDefEqProofs only [code_ops, code_seq, code_cond, code_exit, ops_cons, ops_nil, aOp, opd, upd_at, kt_cons, stepVal, aBin, aInt, isShift, gcE, gc_mk, isTrim_cons, gcIds_mk, newIds_nil, newIds_cons, gcMap_at, posOf, ren, renC, renO_box, renO_tail, idsV, idsC, idsO_box, idsO_tail, isData_list_none, isData_list_full, isData_list_tail, isData_int, isData_func, isData_vptr, isData_ptr, isDataL_nil, isDataL_cons, Option.getD_some, List.map_cons, List.map_nil, List.flatMap_cons, List.flatMap_nil, List.length_cons, List.length_nil, List.cons_append, List.nil_append, List.append_nil, List.getElem?_cons_zero, List.getElem?_cons_succ, List.take_succ_cons, List.take_zero, List.take_nil, List.not_mem_nil, ↓reduceIte, Bool.and_true, Bool.and_false, Bool.false_eq_true, and_true, not_false_eq_true, decide_false, and_self, Nat.le_refl, reduceCtorEq, Nat.zero_add, Nat.reduceEqDiff, Nat.reduceAdd, Nat.reduceLT, Nat.reduceLeDiff, roundF_eq, kt_nil, data_Ints, data_Alts, h0', hdT, hdO, hdI, o1, o2]
/-- The heap where the list was empty: as soon as a kid is laid, both lists have room. -/
def hB (op n : Int) (binds : List Int) (outs : List CExpr) (ids : List Int) (j : Nat) : Heap :=
  if j = 0 then [.box [.func 187 [] [.ptr (some (0, 0)), .ptr (some (1, 0))]], .box [.list [] (some none)], .box [.int .i64 op, .int .i64 n, .list (binds.map encI) none, .list [] (some none), .list [] (some none)]]
  else [.box [.func 187 [] [.ptr (some (0, 0)), .ptr (some (1, 0))]], .box [.list (outs.map encExpr) (some (some 3))], .box [.int .i64 op, .int .i64 n, .list (binds.map encI) none, .list (ids.map encI) (some (some 4)), .list [] (some none)], .tail outs.length 5, .tail j 1]
def lB (op n : Int) (binds : List Int) (kids : List CTree) (alts : List CAlt) (outs : List CExpr) (ids : List Int) (j : Nat) : St :=
  ⟨kt [0, 1, 2, 5, 27, 28, 29] [.vptr [.int .i64 op, .int .i64 n, .list (binds.map encI) none, .list (kids.map encTree) none, .list (alts.map encAlt) none] 0, .ptr (some (0, 0)), .ptr (some (1, 0)), .ptr (some (2, 0)), .list (kids.map encTree) none, .int .i64 kids.length, .int .i64 j], hB op n binds outs ids j⟩
def lB' (op n : Int) (binds : List Int) (kids : List CTree) (alts : List CAlt) (outs : List CExpr) (ids : List Int) (j : Nat) : St :=
  ⟨kt [0, 2, 5] [.vptr [.int .i64 op, .int .i64 n, .list (binds.map encI) none, .list (kids.map encTree) none, .list (alts.map encAlt) none] 0, .ptr (some (1, 0)), .ptr (some (2, 0))], hB op n binds outs ids j⟩
theorem list_l0B (op n : Int) (binds : List Int) (kids : List CTree) (alts : List CAlt) (hsz : tsizes kids < 2 ^ 30) (hkl : kids.length < 2 ^ 30) (ih : ∀ k ∈ kids, WalkOk L k) :
    loopF L.pure (call L) 3 [0, 1, 2, 5, 27, 28, 29] [0, 2, 5] 0 fn187_l0 (lB op n binds kids alts [] [] 0) = some (.normal, lB' op n binds kids alts (listTs kids 0) (rootsTs kids 0) kids.length) := by
  have hp := hL.pure
  have hdT := data_Trees kids
  have hC := loopF_count (pure := L.pure) (call := call L) (b := 3) (keep := [0, 1, 2, 5, 27, 28, 29]) (fk := [0, 2, 5]) (id := 0) (body := fn187_l0)
    (fun j => lB op n binds kids alts (listTs (kids.take j) 0) (rootsTs (kids.take j) 0) j) kids.length (T := lB' op n binds kids alts (listTs kids 0) (rootsTs kids 0) kids.length) ?_ ?_
  · have e0 : listTs (kids.take 0) 0 = [] := by rw [List.take_zero, listTs]
    have e1 : rootsTs (kids.take 0) 0 = [] := by rw [List.take_zero, rootsTs]
    simp only [e0, e1] at hC
    exact hC
  · intro j hj
    obtain ⟨h1, h2, h3⟩ := round_c encTree kids hkl j hj
    have hw := ih kids[j] (List.getElem_mem hj) (listTs (kids.take j) 0)
    have hlen : (listTs (kids.take j) 0).length = 0 + tsizes (kids.take j) := by rw [list_lens]; omega
    have hle := tsizes_le kids (j + 1)
    rw [tsizes_take kids j hj] at hle
    have hrl : (rootsTs (kids.take j) 0).length = j := by rw [rootsTs_len]; simp; omega
    have hjj : j + 1 ≤ 1073741824 := by omega
    rw [List.take_succ_eq_append_getElem hj, listTs_snoc, rootsTs_snoc, ← hlen]
    have hw := hw (by rw [hlen]; omega)
    have hkp : 0 < tsize kids[j] := tsize_pos _
    have hz0 : j = 0 → listTs (kids.take j) 0 = [] := by intro h; rw [h, List.take_zero, listTs]
    have hzp : 0 < j → 0 < (listTs (kids.take j) 0).length := by
      intro h
      rw [hlen]
      cases kids with
      | nil => simp at hj
      | cons x xs =>
        cases j with
        | zero => omega
        | succ j => rw [List.take_succ_cons, tsizes]; have := tsize_pos x; omega
    have hll : (listT kids[j] (listTs (kids.take j) 0).length).length = tsize kids[j] := list_len _ _
    generalize kids[j] = kid at *
    generalize listTs (kids.take j) 0 = ou at *
    generalize rootsTs (kids.take j) 0 = ids at *
    have hpos2 : 0 < (ou ++ listT kid ou.length).length := by rw [List.length_append]; omega
    rw [lh_pos hpos2] at hw
    have hdO := data_Exprs ou
    have hall := all_Ints ids
    have hdI := data_Ints ids
    obtain ⟨tc, htc, hdt⟩ := enc_vptr kid
    rw [htc] at hw
    have e3 : ∀ a b, hB op n binds a b (j + 1) = [.box [.func 187 [] [.ptr (some (0, 0)), .ptr (some (1, 0))]], .box [.list (a.map encExpr) (some (some 3))], .box [.int .i64 op, .int .i64 n, .list (binds.map encI) none, .list (b.map encI) (some (some 4)), .list [] (some none)], .tail a.length 5, .tail (j + 1) 1] := fun a b => if_neg (by omega)
    rcases Nat.eq_zero_or_pos j with hz | hz
    · have : ids = [] := List.length_eq_zero_iff.1 (by omega)
      subst this
      have := hz0 hz
      subst this
      rw [lh_nil] at hw
      have o3 : j + 1 = 1 := by omega
      have e4 : hB op n binds [] [] j = [.box [.func 187 [] [.ptr (some (0, 0)), .ptr (some (1, 0))]], .box [.list [] (some none)], .box [.int .i64 op, .int .i64 n, .list (binds.map encI) none, .list [] (some none), .list [] (some none)]] := if_pos hz
      generalize [] ++ listT kid ([] : List CExpr).length = ou2 at *
      have hdO2 := data_Exprs ou2
      unfold fn187_l0 lB
      rw [e3, e4]
      simp -implicitDefEqProofs only [code_skip, code_ops, code_draw, code_seq, code_cond, code_block, ops_cons, ops_nil, aOp, opd, upd_at, upd_none, kt_cons, stepVal, stepHeap, aBin, aInt, aIndexList, isShift, aWanted, aLoad1, aStore, aField, leaf, acells_int, acells_list, acells_vptr, cellsSet, gc_mk, isTrim_cons, gcIds_mk, newIds_nil, newIds_cons, gcMap_at, posOf, ren, renC, renO_box, renO_tail, idsV, idsC, idsO_box, draw_eq, opsH_nil, opsH_cons, isLoud, aAppend, wipe_int, wipe_ptr, wipe_vptr, isData_list_none, isData_list_full, isData_list_tail, isData_int, isData_func, isData_vptr, isData_ptr, isDataL_nil, isDataL_cons, Option.map_some, Option.getD_some, List.map_cons, List.map_nil, List.flatMap_cons, List.flatMap_nil, List.length_cons, List.length_nil, List.cons_append, List.nil_append, List.append_nil, List.getElem?_cons_zero, List.getElem?_cons_succ, List.set_cons_zero, List.set_cons_succ, List.take_succ_cons, List.take_zero, List.drop_succ_cons, List.drop_zero, List.all_cons, List.all_nil, List.mem_cons, List.not_mem_nil, ↓reduceIte, Bool.and_true, Bool.and_false, Bool.false_eq_true, and_true, and_false, or_true, or_false, not_true_eq_false, not_false_eq_true, decide_true, decide_false, and_self, Nat.le_refl, Nat.zero_le, reduceCtorEq, Nat.add_zero, Nat.zero_add, Nat.reduceEqDiff, Nat.reduceAdd, Nat.reduceSub, Nat.reduceLT, Nat.reduceLeDiff, Int.toNat_natCast, Int.natCast_nonneg, List.cons_ne_nil, roundF_eq, maxLen_eq, checksP_cons, checksP_nil, checkP_eq, drawTo_if, forall_const, forall_eq_or_imp, forall_eq, kt_nil, Int.cast_ofNat_Int, rCall_eq, rootsOf_eq, grow_eq, subHeap_eq, newOf_val, backRen_at, putBack_eq, pb_nil, pb_cons, backRes_val, encI_eq, data_Ints, data_Alts, h1, h2, h3, hw, hdT, hdO2, htc, hdt, o3, doCall_p L hp, hp]
    · rw [lh_pos (hzp hz)] at hw
      have e4 : hB op n binds ou ids j = [.box [.func 187 [] [.ptr (some (0, 0)), .ptr (some (1, 0))]], .box [.list (ou.map encExpr) (some (some 3))], .box [.int .i64 op, .int .i64 n, .list (binds.map encI) none, .list (ids.map encI) (some (some 4)), .list [] (some none)], .tail ou.length 5, .tail j 1] := if_neg (by omega)
      generalize ou ++ listT kid ou.length = ou2 at *
      have hdO2 := data_Exprs ou2
      unfold fn187_l0 lB
      rw [e3, e4]
      simp -implicitDefEqProofs only [code_skip, code_ops, code_draw, code_seq, code_cond, code_block, ops_cons, ops_nil, aOp, opd, upd_at, upd_none, kt_cons, stepVal, stepHeap, aBin, aInt, aIndexList, isShift, aWanted, aLoad1, aStore, aField, leaf, acells_int, acells_list, acells_vptr, cellsSet, gc_mk, isTrim_cons, gcIds_mk, newIds_nil, newIds_cons, gcMap_at, posOf, ren, renC, renO_box, renO_tail, idsV, idsC, idsO_box, idsO_tail, draw_eq, opsH_nil, opsH_cons, isLoud, aAppend, wipe_int, wipe_ptr, wipe_vptr, isData_list_none, isData_list_full, isData_list_tail, isData_int, isData_func, isData_vptr, isData_ptr, isDataL_nil, isDataL_cons, isDataL_append, Option.getD_some, List.map_cons, List.map_nil, List.flatMap_cons, List.flatMap_nil, List.length_cons, List.length_nil, List.length_map, List.cons_append, List.nil_append, List.append_nil, List.getElem?_cons_zero, List.getElem?_cons_succ, List.set_cons_zero, List.set_cons_succ, List.take_succ_cons, List.take_zero, List.drop_succ_cons, List.drop_zero, List.take_nil, List.all_cons, List.all_nil, List.mem_cons, List.not_mem_nil, ↓reduceIte, Bool.and_true, Bool.and_false, Bool.false_eq_true, and_true, and_false, or_true, or_false, not_true_eq_false, not_false_eq_true, decide_true, decide_false, and_self, Nat.le_refl, Nat.zero_le, reduceCtorEq, Nat.zero_add, Nat.reduceEqDiff, Nat.reduceAdd, Nat.reduceSub, Nat.reduceLT, Nat.reduceLeDiff, Int.toNat_natCast, Int.natCast_nonneg, List.cons_ne_nil, roundF_eq, maxLen_eq, checksP_cons, checksP_nil, checkP_eq, drawTo_if, forall_const, forall_eq_or_imp, forall_eq, List.map_append, kt_nil, rCall_eq, rootsOf_eq, grow_eq, subHeap_eq, newOf_val, backRen_at, putBack_eq, pb_nil, pb_cons, backRes_val, encI_eq, data_Ints, data_Alts, h1, h2, h3, hw, hdT, hdO, hdO2, htc, hdt, hall, hdI, hrl, hjj, doCall_p L hp, hp]
  · have h0' := append_c kids.length
    rw [List.take_length]
    have hdO := data_Exprs (listTs kids 0)
    have hdI := data_Ints (rootsTs kids 0)
    generalize listTs kids 0 = ou at *
    generalize rootsTs kids 0 = ids at *
    unfold fn187_l0 lB lB' hB
    by_cases hz : kids.length = 0
    · rw [if_pos hz]
      simp -implicitDefEqProofs only [code_ops, code_seq, code_cond, code_exit, ops_cons, ops_nil, aOp, opd, upd_at, kt_cons, stepVal, aBin, aInt, isShift, gcE, gc_mk, isTrim_cons, gcIds_mk, newIds_nil, newIds_cons, gcMap_at, posOf, ren, renC, renO_box, idsV, idsC, idsO_box, isData_list_none, isData_list_full, isData_int, isData_func, isData_vptr, isData_ptr, isDataL_nil, isDataL_cons, List.map_cons, List.map_nil, List.flatMap_cons, List.flatMap_nil, List.length_cons, List.length_nil, List.cons_append, List.nil_append, List.append_nil, List.take_succ_cons, List.take_nil, List.not_mem_nil, ↓reduceIte, Bool.and_true, Bool.and_false, Bool.false_eq_true, and_true, not_false_eq_true, decide_false, Nat.le_refl, reduceCtorEq, Nat.zero_add, Nat.reduceEqDiff, Nat.reduceAdd, Nat.reduceLT, Nat.reduceLeDiff, roundF_eq, kt_nil, data_Ints, data_Alts, h0', hdT]
    · rw [if_neg hz]
      simp -implicitDefEqProofs only [code_ops, code_seq, code_cond, code_exit, ops_cons, ops_nil, aOp, opd, upd_at, kt_cons, stepVal, aBin, aInt, isShift, gcE, gc_mk, isTrim_cons, gcIds_mk, newIds_nil, newIds_cons, gcMap_at, posOf, ren, renC, renO_box, renO_tail, idsV, idsC, idsO_box, isData_list_none, isData_list_full, isData_list_tail, isData_int, isData_func, isData_vptr, isData_ptr, isDataL_nil, isDataL_cons, Option.getD_some, List.map_cons, List.map_nil, List.flatMap_cons, List.flatMap_nil, List.length_cons, List.length_nil, List.cons_append, List.nil_append, List.append_nil, List.getElem?_cons_zero, List.getElem?_cons_succ, List.take_succ_cons, List.take_zero, List.mem_cons, List.not_mem_nil, ↓reduceIte, Bool.and_true, Bool.and_false, Bool.false_eq_true, and_true, or_false, not_false_eq_true, decide_false, and_self, Nat.le_refl, reduceCtorEq, Nat.zero_add, Nat.reduceEqDiff, Nat.reduceAdd, Nat.reduceLT, Nat.reduceLeDiff, roundF_eq, kt_nil, data_Ints, data_Alts, h0', hdT, hdO, hdI]
end
end Go.Abs
