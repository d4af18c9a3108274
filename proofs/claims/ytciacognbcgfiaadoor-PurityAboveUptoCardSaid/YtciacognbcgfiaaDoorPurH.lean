/-
  The law PurityAbove on the machine. Conditions: none.
-/
import Derived.Test.YtciacognbcgfiaaDoorPurF
set_option linter.unusedVariables false
set_option linter.unusedSimpArgs false
set_option maxRecDepth 100000
set_option maxHeartbeats 4000000
namespace Go.Abs
theorem andNot_zero {a b : Nat} (ha : a < 64) (hb : b < 64) (h : Sub a b) : IntKind.i64.wrap ((BitVec.ofInt IntKind.i64.bits (a : Int) &&& ~~~BitVec.ofInt IntKind.i64.bits (b : Int)).toNat : Int) = 0 := by
  show IntKind.i64.wrap (((BitVec.ofInt 64 (a : Int) &&& ~~~BitVec.ofInt 64 (b : Int) : BitVec 64).toNat : Nat) : Int) = 0
  have : (BitVec.ofInt 64 (a : Int) &&& ~~~BitVec.ofInt 64 (b : Int) : BitVec 64) = 0#64 := by
    rw [BitVec.ofInt_natCast, BitVec.ofInt_natCast]
    refine BitVec.eq_of_getLsbD_eq fun i hi => ?_
    rw [BitVec.getLsbD_and, BitVec.getLsbD_not, BitVec.getLsbD_ofNat, BitVec.getLsbD_ofNat, BitVec.getLsbD_zero]
    have h1 : (a ||| b).testBit i = b.testBit i := by rw [h]
    rw [Nat.testBit_or] at h1
    cases h2 : a.testBit i with
    | false => simp
    | true =>
      rw [h2, Bool.true_or] at h1
      rw [← h1]
      simp
  rw [this]
  rfl
def wE : CExpr := ⟨1, 1, [], [], []⟩
def prE : CExpr := ⟨8, 7, [], [0], []⟩
def pE : List CExpr := [wE, prE]
theorem pE_list : listOf (toTree (nN 8 7 [nN 1 1 []])) = pE := by
  unfold nN
  rw [toTree_eq]
  simp only [List.map_cons, List.map_nil, toTree_eq]
  rfl
theorem pE_fit : ∀ x ∈ pE, NodeFit x := by
  intro x hx
  unfold pE at hx
  rcases List.mem_cons.1 hx with rfl | hx
  · exact ⟨by simp [wE], by simp [wE], by simp [wE], by simp [wE]⟩
  · rcases List.mem_cons.1 hx with rfl | hx
    · exact ⟨by simp [prE], by simp [prE], by simp [prE], by simp [prE]⟩
    · cases hx
theorem pE_eff : purOf pE = ([0, 3], 0) := by
  have hz : checkErr pE = 0 := by decide
  unfold purOf
  rw [if_pos hz]
  rfl
section
variable {L : Lib} (hC : CLib2 L) (hP : PLib L)
include hC hP
theorem purFact_ok (h145 : L.fns 145 = some fn145) (h153 : L.fns 153 = some fn153) (h174 : L.fns 174 = some fn174) (h : Heap) : pcall L 145 [] h = some (.val (.bool true), h) := by
  have hL := hC.plain
  have hp := hL.pure
  have hw : ∀ h, pcall L 153 [.int .i64 1] h = some (.val (encNode (nN 1 1 [])), h) := by
    intro h
    have hn := nN_ok hC 1 1 []
    refine pcall_fn hL h153 (data_Node _) ?_ h
    obtain ⟨tc, htc, hdt⟩ := encN_vptr (nN 1 1 [])
    rw [htc] at hn ⊢
    simp only [List.map_nil] at hn
    unfold fn153
    simp -implicitDefEqProofs only [code_ops, code_seq, code_ret, ops_cons, ops_nil, aOp, opd, upd_at, initTm_at, endFn, aResults, aResult, tupled, wipe_list, wipe_int, isData_list_none, isData_int, isDataL_nil, isDataL_cons, Option.getD_some, List.map_cons, List.map_nil, List.getElem?_cons_zero, ↓reduceIte, Bool.and_true, and_self, reduceCtorEq, onlyVal, outOf_val, hn, hdt, wipeR_vptr, doCall_p L hp, hp]
  have hpr : ∀ h, pcall L 174 [encNode (nN 1 1 [])] h = some (.val (encNode (nN 8 7 [nN 1 1 []])), h) := by
    intro h
    have hn := nN_ok hC 8 7 [nN 1 1 []]
    refine pcall_fn hL h174 (data_Node _) ?_ h
    obtain ⟨tc, htc, hdt⟩ := encN_vptr (nN 8 7 [nN 1 1 []])
    obtain ⟨tc1, htc1, hdt1⟩ := encN_vptr (nN 1 1 [])
    rw [htc] at hn ⊢
    simp only [List.map_cons, List.map_nil, htc1] at hn ⊢
    unfold fn174
    simp -implicitDefEqProofs only [code_ops, code_seq, code_ret, ops_cons, ops_nil, aOp, opd, upd_at, initTm_at, leaf, acells_vptr, endFn, aResults, aResult, tupled, wipe_list, wipe_int, wipe_vptr, isData_list_none, isData_int, isData_vptr, isDataL_nil, isDataL_cons, Option.getD_some, List.map_cons, List.map_nil, List.length_cons, List.length_nil, List.getElem?_cons_zero, List.all_cons, List.all_nil, ↓reduceIte, Bool.and_true, decide_true, and_self, reduceCtorEq, Nat.zero_add, onlyVal, outOf_val, hn, hdt, hdt1, wipeR_vptr, doCall_p L hp, hp]
  have hl := nlist_ok hC (nN 8 7 [nN 1 1 []]) (by
    unfold nN
    rw [toTree_eq]
    simp only [List.map_cons, List.map_nil, toTree_eq]
    decide)
  rw [pE_list] at hl
  have hpur := pur_ok hC hP pE (by decide) pE_fit
  rw [pE_eff] at hpur
  have heq := eqInts139 hL hC.f139 [0, 3] [0, 3] (by decide)
  have hdE := data_Exprs pE
  refine pcall_fn hL h145 rfl ?_ h
  obtain ⟨tc, htc, hdt⟩ := encN_vptr (nN 8 7 [nN 1 1 []])
  obtain ⟨tc1, htc1, hdt1⟩ := encN_vptr (nN 1 1 [])
  rw [htc1] at hw hpr
  rw [htc] at hl hpr
  generalize pE.map encExpr = E at *
  have e0 : ∀ n : Nat, encN n = .int .i64 n := fun _ => rfl
  simp only [List.map_cons, List.map_nil, e0, encI_eq, Int.natCast_zero, Int.cast_ofNat_Int] at hpur heq
  unfold fn145
  simp -implicitDefEqProofs only [code_ops, code_seq, code_ret, ops_cons, ops_cons_g, ops_nil, aOp, opd, upd_at, initTm_at, stepVal, aBin, aInt, isShift, aWanted, leaf, acells_int, endFn, aResults, aResult, tupled, wipe_list, wipe_int, wipeR_bool, wipe_vptr, isData_list_none, isData_int, isData_vptr, isDataL_nil, isDataL_cons, beq_self_eq_true, Option.getD_none, List.map_cons, List.map_nil, List.length_cons, List.length_nil, List.nil_append, List.append_nil, List.getElem?_nil, List.getElem?_cons_zero, List.getElem?_cons_succ, List.all_cons, List.all_nil, ↓reduceIte, Bool.and_true, Bool.false_eq_true, decide_true, and_self, Nat.zero_add, Nat.reduceEqDiff, onlyVal, outOf_val, hw, hpr, hl, hpur, heq, hdt, hdt1, hdE, doCall_p L hp, hp]
/-- PurityAbove on the machine. -/
theorem above_ok (h126 : L.fns 126 = some fn126) (h145 : L.fns 145 = some fn145) (h153 : L.fns 153 = some fn153) (h174 : L.fns 174 = some fn174) (e : List CExpr) (hl : e.length < 2 ^ 30) (hf : ∀ x ∈ e, NodeFit x) (h : Heap) :
    pcall L 126 [.list (e.map encExpr) none] h = some (.val (.bool true), h) := by
  have hL := hC.plain
  have hp := hL.pure
  have hdE := data_Exprs e
  have hpur := pur_ok hC hP e hl hf
  have hfact := purFact_ok hC hP h145 h153 h174
  refine pcall_fn hL h126 rfl ?_ h
  unfold purOf at hpur
  by_cases hz : checkErr e = 0
  case neg =>
    have hne : (checkErr e != 0) = true := by simpa using hz
    simp only [hz, if_false, List.map_nil] at hpur
    generalize checkErr e = r at *
    unfold fn126
    simp -implicitDefEqProofs only [code_ops, code_seq, code_cond, code_ret, ops_cons, ops_cons_g, ops_nil, aOp, opd, upd_at, initTm_at, stepVal, aBin, aLen, aInt, isShift, aWanted, endFn, aResults, aResult, tupled, wipe_list, wipeR_bool, isData_list_none, isDataL_nil, isDataL_cons, beq_self_eq_true, Option.getD_some, List.map_cons, List.map_nil, List.length_nil, List.getElem?_cons_zero, List.getElem?_cons_succ, ↓reduceIte, Bool.and_true, Bool.false_eq_true, and_self, reduceCtorEq, Nat.reduceEqDiff, Int.cast_ofNat_Int, onlyVal, outOf_val, hpur, hne, hfact, hdE, doCall_p L hp, hp, Int.natCast_zero]
  simp only [hz, if_true] at hpur
  obtain ⟨hT, hn4, _, hlab, _⟩ := check_tree hz
  have hlen : (effAll e e []).length = e.length := by rw [effAll_len]; simp
  have h64 := effAll_lt e e [] (by simp)
  have hget : ∀ m, m < e.length → ((effAll e e []).map encN)[m]? = some (.int .i64 ((effAll e e []).getD m 0 : Nat)) := by
    intro m hm
    rw [List.getElem?_map, List.getD_eq_getElem?_getD, List.getElem?_eq_getElem (by omega)]
    rfl
  have hlt : ∀ m, (effAll e e []).getD m 0 < 64 := by
    intro m
    rw [List.getD_eq_getElem?_getD]
    cases h : (effAll e e [])[m]? with
    | none => simp
    | some a => simpa using h64 a (List.mem_of_getElem? h)
  have hdN : isDataL ((effAll e e []).map encN) = true := isDataL_map encN (fun _ => rfl) _
  have habove := fun i hi k hk => eff_above hT i hi k hk
  have hlam := fun i hi => eff_lam (e := e) i hi
  generalize hEF : effAll e e [] = F at *
  have hl0 : ∀ i (hi : i < e.length), loopF L.pure (call L) 1 [3, 5, 6, 31, 32, 33, 49, 50, 51] [2, 3, 31, 32, 33] 2 fn126_l0
      ⟨kt [3, 5, 6, 31, 32, 33, 49, 50, 51] [.list (F.map encN) none, .int .i64 i, .ptr (some (0, 0)), .list (e.map encExpr) none, .int .i64 e.length, .int .i64 i, .list (e[i].kids.map encI) none, .int .i64 e[i].kids.length, .int .i64 ((0 : Nat) : Int)], [tboxK e[i] (.list (e[i].kids.map encI) none)]⟩ =
      some (.normal, ⟨kt [2, 3, 31, 32, 33] [.junk, .list (F.map encN) none, .list (e.map encExpr) none, .int .i64 e.length, .int .i64 i], [tboxK e[i] (.list (e[i].kids.map encI) none)]⟩) := by
    intro i hi
    have hx := hf e[i] (List.getElem_mem hi)
    have hs := lab_shape (hlab e[i] (List.getElem_mem hi))
    unfold labX at hs
    dsimp only at hs
    rw [List.length_map] at hs
    have hab := habove i hi
    have hrec := fun h5 => shape_rec hs h5
    refine loopF_count (fun k => ⟨kt [3, 5, 6, 31, 32, 33, 49, 50, 51] [.list (F.map encN) none, .int .i64 i, .ptr (some (0, 0)), .list (e.map encExpr) none, .int .i64 e.length, .int .i64 i, .list (e[i].kids.map encI) none, .int .i64 e[i].kids.length, .int .i64 (k : Int)], [tboxK e[i] (.list (e[i].kids.map encI) none)]⟩) e[i].kids.length ?_ ?_
    · intro k hk
      obtain ⟨h1, h2, h3⟩ := round_c encI e[i].kids hx.kids k hk
      have ha := hT.ahead i hi e[i].kids[k] (List.getElem_mem hk)
      have hab := hab k hk
      have hgk := hget e[i].kids[k].toNat (by omega)
      have hgi := hget i hi
      have hk0 : 0 ≤ e[i].kids[k] := ha.1
      have hdX := data_Alts e[i].alts
      by_cases e2 : e[i].op = 2
      · have b2 : (e[i].op != 2) = false := by simpa using e2
        clear hab hrec hx hs habove hlam hgk ha
        generalize e[i].kids[k] = kid at *
        generalize e[i] = x at *
        unfold tboxK
        unfold fn126_l0
        simp -implicitDefEqProofs only [code_skip, code_ops, code_draw, code_seq, code_cond, code_block, ops_cons, ops_nil, aOp, opd, upd_at, kt_cons, stepVal, aBin, aInt, aIndexList, isShift, aWanted, aLoad1, aField, acells_int, gc_mk, isTrim_cons, gcIds_mk, newIds_nil, newIds_cons, gcMap_at, posOf, ren, renC, renO_box, idsV, idsC, idsO_box, draw_eq, opsH_nil, opsH_cons, isLoud, isData_list_none, isData_int, isData_ptr, beqFT, List.map_cons, List.map_nil, List.flatMap_cons, List.flatMap_nil, List.length_cons, List.length_nil, List.nil_append, List.append_nil, List.getElem?_cons_zero, List.take_succ_cons, List.take_nil, List.not_mem_nil, ↓reduceIte, Bool.false_eq_true, and_true, not_false_eq_true, decide_true, decide_false, Nat.le_refl, Nat.add_zero, Nat.zero_add, Nat.reduceEqDiff, Nat.reduceLT, Nat.reduceLeDiff, Int.toNat_natCast, Int.natCast_nonneg, roundF_eq, checksP_nil, drawTo_if, kt_nil, encI_eq, data_Ints, h1, h2, h3, b2, hdN, hdE, hdX]
      have b2 : (e[i].op != 2) = true := by simpa using e2
      by_cases e5 : e[i].op = 5
      · have b5 : (e[i].op != 5) = false := by simpa using e5
        by_cases ek : k = e[i].binds.length
        · have bk : ((k : Int) == e[i].binds.length) = true := by simp [ek]
          have hz := andNot_zero (hlt _) (hlt _) (hab e2 (.inr ek) hrec)
          clear hab hrec hx hs habove hlam ha
          generalize F.getD e[i].kids[k].toNat 0 = u at *
          generalize F.getD i 0 = v at *
          generalize e[i].kids[k] = kid at *
          generalize e[i] = x at *
          unfold tboxK
          unfold fn126_l0
          simp -implicitDefEqProofs only [code_skip, code_ops, code_draw, code_seq, code_cond, code_block, ops_cons, ops_nil, aOp, opd, upd_at, kt_cons, stepVal, aBin, aLen, aInt, aIndexList, isShift, aWanted, aLoad1, aField, acells_int, gc_mk, isTrim_cons, gcIds_mk, newIds_nil, newIds_cons, gcMap_at, posOf, ren, renC, renO_box, idsV, idsC, idsO_box, draw_eq, opsH_nil, opsH_cons, isLoud, isData_list_none, isData_int, isData_ptr, beq_self_eq_true, List.map_cons, List.map_nil, List.flatMap_cons, List.flatMap_nil, List.length_cons, List.length_nil, List.length_map, List.nil_append, List.append_nil, List.getElem?_cons_zero, List.getElem?_cons_succ, List.take_succ_cons, List.take_nil, List.not_mem_nil, ↓reduceIte, Bool.false_eq_true, and_true, not_false_eq_true, decide_true, decide_false, Nat.le_refl, Nat.add_zero, Nat.zero_add, Nat.reduceEqDiff, Nat.reduceLT, Nat.reduceLeDiff, Int.toNat_natCast, Int.natCast_nonneg, roundF_eq, checksP_nil, drawTo_if, Int.reduceBNe, kt_nil, encI_eq, data_Ints, h1, h2, h3, b2, b5, bk, hk0, hgk, hgi, hz, hdN, hdE, hdX]
        · have bk : ((k : Int) == e[i].binds.length) = false := by simp; omega
          clear hab hrec hx hs habove hlam ha
          generalize e[i].kids[k] = kid at *
          generalize e[i] = x at *
          unfold tboxK
          unfold fn126_l0
          simp -implicitDefEqProofs only [code_skip, code_ops, code_draw, code_seq, code_cond, code_block, ops_cons, ops_nil, aOp, opd, upd_at, kt_cons, stepVal, aBin, aLen, aInt, aIndexList, isShift, aWanted, aLoad1, aField, acells_int, gc_mk, isTrim_cons, gcIds_mk, newIds_nil, newIds_cons, gcMap_at, posOf, ren, renC, renO_box, idsV, idsC, idsO_box, draw_eq, opsH_nil, opsH_cons, isLoud, isData_list_none, isData_int, isData_ptr, beqFT, beq_self_eq_true, List.map_cons, List.map_nil, List.flatMap_cons, List.flatMap_nil, List.length_cons, List.length_nil, List.length_map, List.nil_append, List.append_nil, List.getElem?_cons_zero, List.getElem?_cons_succ, List.take_succ_cons, List.take_nil, List.not_mem_nil, ↓reduceIte, Bool.false_eq_true, and_true, not_false_eq_true, decide_true, decide_false, Nat.le_refl, Nat.add_zero, Nat.zero_add, Nat.reduceEqDiff, Nat.reduceLT, Nat.reduceLeDiff, Int.toNat_natCast, Int.natCast_nonneg, roundF_eq, checksP_nil, drawTo_if, kt_nil, encI_eq, data_Ints, h1, h2, h3, b2, b5, bk, hdN, hdE, hdX]
      · have b5 : (e[i].op != 5) = true := by simpa using e5
        have hz := andNot_zero (hlt _) (hlt _) (hab e2 (.inl e5) hrec)
        clear hab hrec hx hs habove hlam ha
        generalize F.getD e[i].kids[k].toNat 0 = u at *
        generalize F.getD i 0 = v at *
        generalize e[i].kids[k] = kid at *
        generalize e[i] = x at *
        unfold tboxK
        unfold fn126_l0
        simp -implicitDefEqProofs only [code_skip, code_ops, code_draw, code_seq, code_cond, code_block, ops_cons, ops_nil, aOp, opd, upd_at, kt_cons, stepVal, aBin, aInt, aIndexList, isShift, aWanted, aLoad1, aField, acells_int, gc_mk, isTrim_cons, gcIds_mk, newIds_nil, newIds_cons, gcMap_at, posOf, ren, renC, renO_box, idsV, idsC, idsO_box, draw_eq, opsH_nil, opsH_cons, isLoud, isData_list_none, isData_int, isData_ptr, beqTF, beq_self_eq_true, List.map_cons, List.map_nil, List.flatMap_cons, List.flatMap_nil, List.length_cons, List.length_nil, List.nil_append, List.append_nil, List.getElem?_cons_zero, List.take_succ_cons, List.take_nil, List.not_mem_nil, ↓reduceIte, Bool.false_eq_true, and_true, not_false_eq_true, decide_true, decide_false, Nat.le_refl, Nat.add_zero, Nat.zero_add, Nat.reduceEqDiff, Nat.reduceLT, Nat.reduceLeDiff, Int.toNat_natCast, Int.natCast_nonneg, roundF_eq, checksP_nil, drawTo_if, Int.reduceBNe, kt_nil, encI_eq, data_Ints, h1, h2, h3, b2, b5, hk0, hgk, hgi, hz, hdN, hdE, hdX]
    · have h0 := append_c e[i].kids.length
      have hdX := data_Alts e[i].alts
      clear hab hrec hx hs habove hlam
      generalize e[i] = x at *
      unfold tboxK
      unfold fn126_l0
      simp -implicitDefEqProofs only [code_ops, code_seq, code_cond, code_exit, ops_cons, ops_nil, aOp, opd, upd_at, kt_cons, stepVal, aBin, aInt, isShift, gcE, gc_mk, isTrim_cons, gcIds_mk, newIds_nil, gcMap_at, posOf, ren, renC, renO_box, idsV, idsC, idsO_box, isData_list_none, isData_int, isData_junk, List.map_cons, List.map_nil, List.flatMap_cons, List.flatMap_nil, List.length_cons, List.length_nil, List.append_nil, List.take_succ_cons, List.take_nil, ↓reduceIte, Bool.false_eq_true, decide_false, Nat.le_refl, Nat.zero_add, Nat.reduceEqDiff, roundF_eq, kt_nil, data_Ints, h0, hdN, hdE, hdX]
  have hl1 : loopF L.pure (call L) 0 [3, 31, 32, 33] [2] 0 fn126_l1 ⟨kt [3, 31, 32, 33] [.list (F.map encN) none, .list (e.map encExpr) none, .int .i64 e.length, .int .i64 ((0 : Nat) : Int)], []⟩ = some (.normal, ⟨kt [2] [.junk], []⟩) := by
    refine loopF_count (fun i => ⟨kt [3, 31, 32, 33] [.list (F.map encN) none, .list (e.map encExpr) none, .int .i64 e.length, .int .i64 (i : Int)], []⟩) e.length ?_ ?_
    · intro i hi
      obtain ⟨h1, h2, h3⟩ := round_c encExpr e hl i hi
      have hl0 := hl0 i hi
      have hlam := hlam i hi
      have hgi := hget i hi
      have hdX := data_Alts e[i].alts
      simp only [Int.natCast_zero] at hl0
      clear habove
      by_cases e2 : e[i].op = 2
      · have b2 : (e[i].op == 2) = true := by simpa using e2
        rw [hlam e2] at hgi
        have hgi : (F.map encN)[i]? = some (.int .i64 0) := hgi
        clear hlam
        generalize e[i] = x at *
        unfold tboxK at hl0
        unfold fn126_l1
        simp -implicitDefEqProofs only [code_skip, code_ops, code_seq, code_cond, code_block, ops_cons, ops_cons_g, ops_nil, aOp, opd, upd_at, upd_none, kt_cons, stepVal, stepHeap, aBin, aLen, aInt, aIndexList, isShift, aWanted, aLoad1, aStore, readAt, aField, leaf, acells_agg, acells_int, cellsSet, code_loopF, gc_mk, isTrim_cons, gcIds_mk, newIds_nil, newIds_cons, gcMap_at, posOf, ren, renC, renO_box, idsV, idsC, idsO_box, isData_list_none, isData_int, isData_ptr, beq_self_eq_true, Option.map_some, List.map_cons, List.map_nil, List.flatMap_cons, List.flatMap_nil, List.length_cons, List.length_nil, List.length_map, List.nil_append, List.append_nil, List.getElem?_cons_zero, List.getElem?_cons_succ, List.set_cons_zero, List.take_succ_cons, List.take_zero, List.drop_succ_cons, List.drop_zero, List.take_nil, List.drop_nil, List.all_cons, List.all_nil, List.not_mem_nil, ↓reduceIte, Bool.and_true, Bool.not_true, Bool.false_eq_true, and_true, not_false_eq_true, decide_true, decide_false, and_self, Nat.le_refl, Nat.zero_le, Nat.add_zero, Nat.zero_add, Nat.reduceEqDiff, Nat.reduceAdd, Nat.reduceLT, Nat.reduceLeDiff, Int.toNat_natCast, Int.natCast_nonneg, roundF_eq, kt_nil, encExpr_eq, data_Ints, h1, h2, h3, b2, hgi, hl0, hdN, hdE, hdX, bne]
      · have b2 : (e[i].op == 2) = false := by simpa using e2
        clear hlam
        generalize e[i] = x at *
        unfold tboxK at hl0
        unfold fn126_l1
        simp -implicitDefEqProofs only [code_skip, code_ops, code_seq, code_cond, code_block, ops_cons, ops_cons_g, ops_nil, aOp, opd, upd_at, upd_none, kt_cons, stepVal, stepHeap, aBin, aLen, aInt, aIndexList, isShift, aWanted, aLoad1, aStore, readAt, aField, leaf, acells_agg, cellsSet, code_loopF, gc_mk, isTrim_cons, gcIds_mk, newIds_nil, newIds_cons, gcMap_at, posOf, ren, renC, renO_box, idsV, idsC, idsO_box, isData_list_none, isData_int, isData_ptr, beqFT, Option.map_some, List.map_cons, List.map_nil, List.flatMap_cons, List.flatMap_nil, List.length_cons, List.length_nil, List.length_map, List.nil_append, List.append_nil, List.getElem?_cons_zero, List.getElem?_cons_succ, List.set_cons_zero, List.take_succ_cons, List.take_zero, List.drop_succ_cons, List.drop_zero, List.take_nil, List.drop_nil, List.all_cons, List.all_nil, List.not_mem_nil, ↓reduceIte, Bool.and_true, Bool.false_eq_true, and_true, not_false_eq_true, decide_true, decide_false, and_self, Nat.le_refl, Nat.zero_le, Nat.add_zero, Nat.zero_add, Nat.reduceEqDiff, Nat.reduceAdd, Nat.reduceLT, Nat.reduceLeDiff, Int.toNat_natCast, Int.natCast_nonneg, roundF_eq, kt_nil, encExpr_eq, data_Ints, h1, h2, h3, b2, hgi, hl0, hdN, hdE, hdX]
    · have h0 := append_c e.length
      unfold fn126_l1
      simp -implicitDefEqProofs only [code_ops, code_seq, code_cond, code_exit, ops_cons, ops_nil, aOp, opd, upd_at, kt_cons, stepVal, aBin, aInt, isShift, gcE, gc_mk, isTrim_cons, gcIds_mk, newIds_nil, gcMap_at, posOf, ren, renC, renO_gone, idsV, idsC, isData_junk, Option.getD_none, List.map_cons, List.map_nil, List.flatMap_cons, List.flatMap_nil, List.length_nil, List.append_nil, List.getElem?_nil, List.take_nil, ↓reduceIte, Bool.false_eq_true, decide_false, Nat.le_refl, Nat.reduceEqDiff, roundF_eq, kt_nil, h0]
  have hll : ((F.length : Int) == (e.length : Int)) = true := by rw [hlen]; simp
  simp only [Int.natCast_zero] at hl1
  unfold fn126
  simp -implicitDefEqProofs only [code_skip, code_ops, code_seq, code_cond, code_ret, ops_cons, ops_cons_g, ops_nil, aOp, opd, upd_at, initTm_at, stepVal, aBin, aLen, aInt, aUn, isShift, aWanted, endFn, aResults, aResult, tupled, code_loopF, gc_mk, isTrim_cons, gcIds_mk, newIds_nil, gcMap_at, posOf, ren, renC, renO_gone, idsV, idsC, wipe_list, wipeR_bool, isData_list_none, isData_int, isDataL_nil, isDataL_cons, beq_self_eq_true, Option.getD_some, Option.getD_none, List.map_cons, List.map_nil, List.flatMap_cons, List.flatMap_nil, List.length_nil, List.length_map, List.append_nil, List.getElem?_nil, List.getElem?_cons_zero, List.getElem?_cons_succ, List.take_nil, ↓reduceIte, Bool.and_true, Bool.not_true, Bool.false_eq_true, decide_false, and_self, Nat.le_refl, reduceCtorEq, Nat.reduceEqDiff, onlyVal, outOf_val, hpur, hll, hfact, hl1, hdE, hdN, doCall_p L hp, hp, bne]
end
end Go.Abs
