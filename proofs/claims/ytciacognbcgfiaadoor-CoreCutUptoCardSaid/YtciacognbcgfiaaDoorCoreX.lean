/-
  Free, Size and Cut, and the law CoreCut on the machine. Conditions: none.
-/
import Derived.Test.YtciacognbcgfiaaDoorCoreW

set_option linter.unusedVariables false
set_option linter.unusedSimpArgs false
set_option maxRecDepth 100000
set_option maxHeartbeats 4000000
namespace Go.Abs
theorem tsize_of {e : List CExpr} (h : checkErr e = 0) (n : Nat) (hn : n < e.length) : tsize (treeAt e n) ≤ 4096 ∧ hgt (treeAt e n) ≤ 400 := by
  have hT := (check_tree h).1
  have := tok_sub (tok_of h) (sub_at hT n hn)
  exact ⟨this.size, this.deep⟩
def cutOf (e : List CExpr) (n : Int) : List CExpr × Int := if atErr e n = 0 then (listOf (treeAt e n.toNat), 0) else ([], atErr e n)
def sizeOfI (e : List CExpr) (n : Int) : Int × Int := if atErr e n = 0 then (tsize (treeAt e n.toNat), 0) else (0, atErr e n)
def freeAtI (e : List CExpr) (n : Int) : List Int × Int := if atErr e n = 0 then (freeOf (treeAt e n.toNat), 0) else ([], atErr e n)
theorem at_zero {e : List CExpr} {n : Int} (h : atErr e n = 0) : checkErr e = 0 ∧ 0 ≤ n ∧ n < e.length := by
  unfold atErr at h
  split at h
  · rename_i hz
    split at h
    · cases h
    · exact ⟨hz, by omega, by omega⟩
  · rename_i hz
    exact absurd h hz
section
variable {L : Lib} (hC : CLib2 L)
include hC
theorem cut_ok (h166 : L.fns 166 = some fn166) (h168 : L.fns 168 = some fn168) (hf142 : L.fns 142 = some fn142) (e : List CExpr) (hl : e.length < 2 ^ 30) (hf : ∀ x ∈ e, NodeFit x) (n : Int) (h : Heap) :
    pcall L 142 [.list (e.map encExpr) none, .int .i64 n] h = some (.val (.tuple [.list ((cutOf e n).1.map encExpr) none, .int .i64 (cutOf e n).2]), h) := by
  have hL := hC.plain
  have hp := hL.pure
  have hdE := data_Exprs e
  have hat := at_ok hC h166 e hl hf n
  refine pcall_fn hL hf142 (by simp only [isData, isDataL, data_Exprs, Bool.and_self]) ?_ h
  unfold cutOf
  by_cases hz : atErr e n = 0
  · obtain ⟨hck, n0, n1⟩ := at_zero hz
    obtain ⟨m, rfl⟩ : ∃ m : Nat, n = m := ⟨n.toNat, by omega⟩
    simp only [hz, if_true, Int.toNat_natCast] at hat ⊢
    obtain ⟨hT, hn, _, hlab, _⟩ := check_tree hck
    have hm : m < e.length := by omega
    have hft := tfit_node hck hf m hm
    obtain ⟨hs1, hs2⟩ := tsize_of hck m hm
    have hfl : (freeF (treeAt e m) ([], [])).2.length < 2 ^ 30 := by have := free_len (treeAt e m) ([], []); simp at this; omega
    have hb := below_ok hL h168 e hl hf hT.ahead m hm
    have hc := fun h => list_ok hL hC.prims hC.f187 hC.f159 (treeAt e m) hft (by omega) h
    obtain ⟨tc, htc, hdt⟩ := enc_vptr (treeAt e m)
    rw [htc] at hb hc
    unfold fn142
    simp -implicitDefEqProofs only [code_skip, code_ops, code_seq, code_cond, code_ret, ops_cons, ops_nil, aOp, opd, upd_at, initTm_at, stepVal, aBin, aInt, isShift, endFn, aResults, aResult, tupled, wipe_list, wipe_int, wipeR_tuple, wipe_vptr, isData_list_none, isData_int, isData_vptr, isDataL_nil, isDataL_cons, beq_self_eq_true, Option.getD_some, List.map_cons, List.map_nil, List.getElem?_cons_zero, List.getElem?_cons_succ, ↓reduceIte, Bool.and_true, Bool.not_true, Bool.false_eq_true, and_self, reduceCtorEq, Nat.reduceEqDiff, onlyVal, outOf_val, hat, hb, hc, hdE, hdt, wipe_vptr, data_Exprs, doCall_p L hp, hp, bne]
  · have hne : (atErr e n != 0) = true := by simpa using hz
    rw [if_neg hz]
    dsimp only
    generalize atErr e n = r at *
    unfold fn142
    simp -implicitDefEqProofs only [code_ops, code_seq, code_cond, code_ret, ops_cons, ops_nil, aOp, opd, upd_at, initTm_at, stepVal, aBin, aInt, isShift, endFn, aResults, aResult, tupled, wipe_list, wipe_int, wipeR_tuple, isData_list_none, isData_int, isDataL_nil, isDataL_cons, Option.getD_some, List.map_cons, List.map_nil, List.getElem?_cons_zero, List.getElem?_cons_succ, ↓reduceIte, Bool.and_true, Bool.false_eq_true, and_self, reduceCtorEq, Nat.reduceEqDiff, onlyVal, outOf_val, hat, hne, hdE, doCall_p L hp, hp, List.map_nil]
theorem size_ok (h166 : L.fns 166 = some fn166) (h168 : L.fns 168 = some fn168) (h172 : L.fns 172 = some fn172) (hf143 : L.fns 143 = some fn143) (e : List CExpr) (hl : e.length < 2 ^ 30) (hf : ∀ x ∈ e, NodeFit x) (n : Int) (h : Heap) :
    pcall L 143 [.list (e.map encExpr) none, .int .i64 n] h = some (.val (.tuple [.int .i64 (sizeOfI e n).1, .int .i64 (sizeOfI e n).2]), h) := by
  have hL := hC.plain
  have hp := hL.pure
  have hdE := data_Exprs e
  have hat := at_ok hC h166 e hl hf n
  refine pcall_fn hL hf143 (by simp only [isData, isDataL, Bool.and_self]) ?_ h
  unfold sizeOfI
  by_cases hz : atErr e n = 0
  · obtain ⟨hck, n0, n1⟩ := at_zero hz
    obtain ⟨m, rfl⟩ : ∃ m : Nat, n = m := ⟨n.toNat, by omega⟩
    simp only [hz, if_true, Int.toNat_natCast] at hat ⊢
    obtain ⟨hT, hn, _, hlab, _⟩ := check_tree hck
    have hm : m < e.length := by omega
    have hft := tfit_node hck hf m hm
    obtain ⟨hs1, hs2⟩ := tsize_of hck m hm
    have hfl : (freeF (treeAt e m) ([], [])).2.length < 2 ^ 30 := by have := free_len (treeAt e m) ([], []); simp at this; omega
    have hb := below_ok hL h168 e hl hf hT.ahead m hm
    have hc := fun h => count_ok hC h172 (treeAt e m) (by omega) h
    obtain ⟨tc, htc, hdt⟩ := enc_vptr (treeAt e m)
    rw [htc] at hb hc
    unfold fn143
    simp -implicitDefEqProofs only [code_skip, code_ops, code_seq, code_cond, code_ret, ops_cons, ops_nil, aOp, opd, upd_at, initTm_at, stepVal, aBin, aInt, isShift, endFn, aResults, aResult, tupled, wipe_list, wipe_int, wipeR_tuple, wipe_vptr, isData_list_none, isData_int, isData_vptr, isDataL_nil, isDataL_cons, beq_self_eq_true, Option.getD_some, List.map_cons, List.map_nil, List.getElem?_cons_zero, List.getElem?_cons_succ, ↓reduceIte, Bool.and_true, Bool.not_true, Bool.false_eq_true, and_self, reduceCtorEq, Nat.reduceEqDiff, onlyVal, outOf_val, hat, hb, hc, hdE, hdt, wipe_vptr, doCall_p L hp, hp, bne]
  · have hne : (atErr e n != 0) = true := by simpa using hz
    rw [if_neg hz]
    dsimp only
    generalize atErr e n = r at *
    unfold fn143
    simp -implicitDefEqProofs only [code_ops, code_seq, code_cond, code_ret, ops_cons, ops_nil, aOp, opd, upd_at, initTm_at, stepVal, aBin, aInt, isShift, endFn, aResults, aResult, tupled, wipe_list, wipe_int, wipeR_tuple, isData_list_none, isData_int, isDataL_nil, isDataL_cons, Option.getD_some, List.map_cons, List.map_nil, List.getElem?_cons_zero, List.getElem?_cons_succ, ↓reduceIte, Bool.and_true, Bool.false_eq_true, and_self, reduceCtorEq, Nat.reduceEqDiff, onlyVal, outOf_val, hat, hne, hdE, doCall_p L hp, hp, List.map_nil]
theorem freeAt_ok (h166 : L.fns 166 = some fn166) (h168 : L.fns 168 = some fn168) (hf135 : L.fns 135 = some fn135) (e : List CExpr) (hl : e.length < 2 ^ 30) (hf : ∀ x ∈ e, NodeFit x) (n : Int) (h : Heap) :
    pcall L 135 [.list (e.map encExpr) none, .int .i64 n] h = some (.val (.tuple [.list ((freeAtI e n).1.map encI) none, .int .i64 (freeAtI e n).2]), h) := by
  have hL := hC.plain
  have hp := hL.pure
  have hdE := data_Exprs e
  have hat := at_ok hC h166 e hl hf n
  refine pcall_fn hL hf135 (by simp only [isData, isDataL, data_Ints, Bool.and_self]) ?_ h
  unfold freeAtI
  by_cases hz : atErr e n = 0
  · obtain ⟨hck, n0, n1⟩ := at_zero hz
    obtain ⟨m, rfl⟩ : ∃ m : Nat, n = m := ⟨n.toNat, by omega⟩
    simp only [hz, if_true, Int.toNat_natCast] at hat ⊢
    obtain ⟨hT, hn, _, hlab, _⟩ := check_tree hck
    have hm : m < e.length := by omega
    have hft := tfit_node hck hf m hm
    obtain ⟨hs1, hs2⟩ := tsize_of hck m hm
    have hfl : (freeF (treeAt e m) ([], [])).2.length < 2 ^ 30 := by have := free_len (treeAt e m) ([], []); simp at this; omega
    have hb := below_ok hL h168 e hl hf hT.ahead m hm
    have hc := fun h => freeOf_ok hL hC.prims hC.f236 hC.f196 hC.f167 (treeAt e m) hft (by omega) hfl h
    obtain ⟨tc, htc, hdt⟩ := enc_vptr (treeAt e m)
    rw [htc] at hb hc
    unfold fn135
    simp -implicitDefEqProofs only [code_skip, code_ops, code_seq, code_cond, code_ret, ops_cons, ops_nil, aOp, opd, upd_at, initTm_at, stepVal, aBin, aInt, isShift, endFn, aResults, aResult, tupled, wipe_list, wipe_int, wipeR_tuple, wipe_vptr, isData_list_none, isData_int, isData_vptr, isDataL_nil, isDataL_cons, beq_self_eq_true, Option.getD_some, List.map_cons, List.map_nil, List.getElem?_cons_zero, List.getElem?_cons_succ, ↓reduceIte, Bool.and_true, Bool.not_true, Bool.false_eq_true, and_self, reduceCtorEq, Nat.reduceEqDiff, onlyVal, outOf_val, hat, hb, hc, hdE, hdt, wipe_vptr, data_Ints, doCall_p L hp, hp, bne]
  · have hne : (atErr e n != 0) = true := by simpa using hz
    rw [if_neg hz]
    dsimp only
    generalize atErr e n = r at *
    unfold fn135
    simp -implicitDefEqProofs only [code_ops, code_seq, code_cond, code_ret, ops_cons, ops_nil, aOp, opd, upd_at, initTm_at, stepVal, aBin, aInt, isShift, endFn, aResults, aResult, tupled, wipe_list, wipe_int, wipeR_tuple, isData_list_none, isData_int, isDataL_nil, isDataL_cons, Option.getD_some, List.map_cons, List.map_nil, List.getElem?_cons_zero, List.getElem?_cons_succ, ↓reduceIte, Bool.and_true, Bool.false_eq_true, and_self, reduceCtorEq, Nat.reduceEqDiff, onlyVal, outOf_val, hat, hne, hdE, doCall_p L hp, hp, List.map_nil]
/-- CoreCut on the machine. -/
theorem corecut_ok (h166 : L.fns 166 = some fn166) (h168 : L.fns 168 = some fn168) (h172 : L.fns 172 = some fn172) (h142 : L.fns 142 = some fn142) (h143 : L.fns 143 = some fn143) (h135 : L.fns 135 = some fn135) (h125 : L.fns 125 = some fn125)
    (e : List CExpr) (hl : e.length < 2 ^ 30) (hf : ∀ x ∈ e, NodeFit x) (n : Int) (h : Heap) : pcall L 125 [.list (e.map encExpr) none, .int .i64 n] h = some (.val (.bool true), h) := by
  have hL := hC.plain
  have hp := hL.pure
  have hdE := data_Exprs e
  have hfact := coreFact_ok hC
  have hcut := cut_ok hC h166 h168 h142 e hl hf n
  have hsize := size_ok hC h166 h168 h172 h143 e hl hf n
  have hfree := freeAt_ok hC h166 h168 h135 e hl hf n
  refine pcall_fn hL h125 rfl ?_ h
  unfold cutOf at hcut
  unfold sizeOfI at hsize
  unfold freeAtI at hfree
  by_cases hz : atErr e n = 0
  · obtain ⟨hck, n0, n1⟩ := at_zero hz
    simp only [hz, if_true] at hcut hsize hfree
    have hT := (check_tree hck).1
    have hm : n.toNat < e.length := by omega
    have hft := tfit_node hck hf n.toNat hm
    have hok := tok_sub (tok_of hck) (sub_at hT n.toNat hm)
    have hch := check_ok hC.toCLib (listOf (treeAt e n.toNat)) (by unfold listOf; rw [list_len]; have := hok.size; omega) (list_fit _ 0 hft)
    rw [check_listOf hok] at hch
    have hlen : (((listOf (treeAt e n.toNat)).length : Int) == (tsize (treeAt e n.toNat) : Int)) = true := by unfold listOf; rw [list_len]; simp
    have hdF := data_Exprs (listOf (treeAt e n.toNat))
    have hdI := data_Ints (freeOf (treeAt e n.toNat))
    generalize listOf (treeAt e n.toNat) = f at *
    generalize tsize (treeAt e n.toNat) = z at *
    generalize freeOf (treeAt e n.toNat) = l at *
    unfold fn125
    by_cases hnil : l = []
    · simp only [hnil, if_true] at hch
      simp -implicitDefEqProofs only [code_skip, code_ops, code_seq, code_cond, code_ret, ops_cons, ops_cons_g, ops_nil, aOp, opd, upd_at, initTm_at, stepVal, aBin, aLen, aInt, aUn, isShift, aWanted, endFn, aResults, aResult, tupled, wipe_list, wipe_int, wipeR_bool, isData_list_none, isData_int, isDataL_nil, isDataL_cons, beq_self_eq_true, Option.getD_some, List.map_cons, List.map_nil, List.length_nil, List.length_map, List.getElem?_cons_zero, List.getElem?_cons_succ, ↓reduceIte, Bool.and_true, Bool.not_true, Bool.false_eq_true, decide_false, and_self, reduceCtorEq, Nat.reduceEqDiff, Int.reduceLT, Int.cast_ofNat_Int, gt_iff_lt, onlyVal, outOf_val, hfact, hcut, hsize, hfree, hch, hlen, hdE, hdF, hdI, hnil, doCall_p L hp, hp, bne, Int.natCast_zero]
    · simp only [hnil, if_false] at hch
      have hpos : (0 : Int) < (l.length : Int) := by have := List.length_pos_iff.2 hnil; omega
      simp -implicitDefEqProofs only [code_skip, code_ops, code_seq, code_cond, code_ret, ops_cons, ops_cons_g, ops_nil, aOp, opd, upd_at, initTm_at, stepVal, aBin, aLen, aInt, aUn, isShift, aWanted, endFn, aResults, aResult, tupled, wipe_list, wipe_int, wipeR_bool, isData_list_none, isData_int, isDataL_nil, isDataL_cons, beq_self_eq_true, Option.getD_some, List.map_cons, List.map_nil, List.length_map, List.getElem?_cons_zero, List.getElem?_cons_succ, ↓reduceIte, Bool.and_true, Bool.not_true, Bool.false_eq_true, decide_true, and_self, reduceCtorEq, Nat.reduceEqDiff, gt_iff_lt, onlyVal, outOf_val, hfact, hcut, hsize, hfree, hch, hlen, hdE, hdF, hdI, hpos, doCall_p L hp, hp, bne]
  · have hne : (atErr e n == 0) = false := by simpa using hz
    simp only [hz, if_false, List.map_nil] at hcut hsize hfree
    generalize atErr e n = r at *
    unfold fn125
    simp -implicitDefEqProofs only [code_skip, code_ops, code_seq, code_cond, code_ret, ops_cons, ops_cons_g, ops_nil, aOp, opd, upd_at, initTm_at, stepVal, aBin, aLen, aInt, aUn, isShift, aWanted, endFn, aResults, aResult, tupled, wipe_list, wipe_int, wipeR_bool, isData_list_none, isData_int, isDataL_nil, isDataL_cons, beq_self_eq_true, Option.getD_some, List.map_cons, List.map_nil, List.length_nil, List.getElem?_cons_zero, List.getElem?_cons_succ, ↓reduceIte, Bool.and_true, Bool.not_true, Bool.not_false, Bool.false_eq_true, and_self, reduceCtorEq, Nat.reduceEqDiff, Int.cast_ofNat_Int, onlyVal, outOf_val, hfact, hcut, hsize, hfree, hne, hdE, doCall_p L hp, hp, bne, Int.natCast_zero]
end
end Go.Abs
