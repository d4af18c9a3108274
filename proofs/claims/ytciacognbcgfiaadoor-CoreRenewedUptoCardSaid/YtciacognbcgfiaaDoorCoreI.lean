/-
  The identifiers that a node binds. Conditions: none.
-/
import Derived.Test.YtciacognbcgfiaaDoorG
set_option linter.unusedVariables false
set_option linter.unusedSimpArgs false
set_option maxRecDepth 100000
set_option maxHeartbeats 4000000
namespace Go.Abs
def opBinds (op : Int) : Bool := op == 2 || op == 4 || op == 5
def bindersOf (op : Int) (binds : List Int) (as : List CAlt) : List Int := (if opBinds op = true then binds else []) ++ as.flatMap (·.binds)
section
variable {L : Lib} (hL : Plain L)
def b232 (as : List CAlt) (s : List Int) (i : Nat) : St := ⟨kt [3, 34, 35, 36] [.list (s.map encI) (ownAt 0 s.length), .list (as.map encAlt) none, .int .i64 as.length, .int .i64 i], tailAt 1 s.length⟩
def e232 (s : List Int) : St := ⟨kt [3] [.list (s.map encI) (ownAt 0 s.length)], tailAt 1 s.length⟩
theorem binders_l0 (as : List CAlt) (hl : as.length < 2 ^ 30) (s0 : List Int) (ht : (s0 ++ as.flatMap (·.binds)).length ≤ 2 ^ 30) :
    loopF L.pure (call L) (tailAt 1 s0.length).length [3, 34, 35, 36] [3] 0 fn232_l0 (b232 as s0 0) = some (.normal, e232 (s0 ++ as.flatMap (·.binds))) := by
  have hb : (tailAt 1 s0.length).length = 0 ∨ ((tailAt 1 s0.length).length = 1 ∧ s0 ≠ []) := by
    cases s0 with
    | nil => exact .inl rfl
    | cons a l => exact .inr ⟨rfl, by simp⟩
  generalize (tailAt 1 s0.length).length = b at hb
  have key := loopF_fold (pure := L.pure) (call := call L) (b := b) (keep := [3, 34, 35, 36]) (fk := [3]) (id := 0) (body := fn232_l0) as (fun s a => s ++ a.binds) (b232 as) e232
    (fun s i => s ++ (as.drop i).flatMap (·.binds) = s0 ++ as.flatMap (·.binds) ∧ (b = 0 ∨ (b = 1 ∧ s ≠ []))) s0 ⟨rfl, hb⟩ ?_ ?_
  · obtain ⟨⟨h1, _⟩, h2⟩ := key
    rw [List.drop_length, List.flatMap_nil, List.append_nil] at h1
    rw [h2, h1]
  · intro i hi s hs
    obtain ⟨h1, h2, h3⟩ := round_c encAlt as hl i hi
    obtain ⟨hs1, hs2⟩ := hs
    have hd : as.drop i = as[i] :: as.drop (i + 1) := List.drop_eq_getElem_cons hi
    rw [hd, List.flatMap_cons] at hs1
    have hlen : s.length + as[i].binds.length ≤ 1073741824 := by
      have := congrArg List.length hs1
      simp only [List.length_append] at this ht
      omega
    refine ⟨?_, by rw [List.append_assoc]; exact hs1, by rcases hs2 with h | ⟨h, h'⟩; exact .inl h; exact .inr ⟨h, by simp [h']⟩⟩
    clear hs1 hd ht
    generalize as[i] = a at *
    have hs1 := all_Ints s
    have hs3 := all_Ints a.binds
    unfold b232
    by_cases hab : a.binds = []
    · rw [hab, List.append_nil]
      by_cases hz : s = []
      · subst hz
        rcases hs2 with rfl | ⟨rfl, h⟩
        · unfold fn232_l0
          simp -implicitDefEqProofs only [code_skip, code_ops, code_seq, code_cond, code_block, ops_cons, ops_nil, aOp, opd, upd_at, upd_none, kt_cons, stepVal, stepHeap, aBin, aInt, aIndexList, isShift, aLoad1, aStore, readAt, aField, leaf, acells_agg, cellsSet, gc_mk, isTrim_cons, gcIds_mk, newIds_nil, gcMap_at, posOf, ren, renC, idsV, idsC, aAppend, isData_list_none, isData_list_full, isData_int, isDataL_nil, Option.map_some, List.map_cons, List.map_nil, List.flatMap_cons, List.flatMap_nil, List.length_cons, List.length_nil, List.nil_append, List.append_nil, List.getElem?_cons_zero, List.getElem?_cons_succ, List.set_cons_zero, List.take_succ_cons, List.take_zero, List.drop_succ_cons, List.drop_zero, List.take_nil, List.drop_nil, List.all_cons, List.all_nil, ↓reduceIte, Bool.and_true, Bool.false_eq_true, decide_true, decide_false, and_self, Nat.le_refl, Nat.zero_le, Nat.zero_add, Nat.reduceEqDiff, Nat.reduceAdd, Int.toNat_natCast, Int.natCast_nonneg, roundF_eq, kt_nil, ownAt_zero, tailAt_zero, encAlt_eq, data_Alts, h1, h2, h3, hab]
        · exact absurd rfl h
      · have o1 := ownAt_pos (b := 0) (List.length_pos_iff.2 hz)
        have o2 := tailAt_pos (sz := 1) (List.length_pos_iff.2 hz)
        rcases hs2 with rfl | ⟨rfl, h⟩ <;> unfold fn232_l0 <;> simp -implicitDefEqProofs only [code_skip, code_ops, code_seq, code_cond, code_block, ops_cons, ops_nil, aOp, opd, upd_at, upd_none, kt_cons, stepVal, stepHeap, aBin, aInt, aIndexList, isShift, aLoad1, aStore, readAt, aField, leaf, acells_agg, cellsSet, gc_mk, isTrim_cons, gcIds_mk, newIds_nil, newIds_cons, gcMap_at, posOf, ren, renC, renO_tail, idsV, idsC, idsO_tail, aAppend, isData_list_none, isData_list_tail, isData_int, Option.map_some, Option.getD_some, List.map_cons, List.map_nil, List.flatMap_cons, List.flatMap_nil, List.length_cons, List.length_nil, List.cons_append, List.nil_append, List.append_nil, List.getElem?_cons_zero, List.getElem?_cons_succ, List.set_cons_zero, List.set_cons_succ, List.take_succ_cons, List.take_zero, List.drop_succ_cons, List.drop_zero, List.take_nil, List.drop_nil, List.all_cons, List.all_nil, List.not_mem_nil, ↓reduceIte, Bool.and_true, Bool.false_eq_true, and_true, not_false_eq_true, decide_true, decide_false, and_self, Nat.le_refl, Nat.zero_le, Nat.zero_add, Nat.reduceEqDiff, Nat.reduceAdd, Nat.reduceLT, Nat.reduceLeDiff, Int.toNat_natCast, Int.natCast_nonneg, roundF_eq, kt_nil, encAlt_eq, data_Ints, data_Alts, h1, h2, h3, hab, o1, o2, data_Ints]
    · have hab' : ((a.binds.map encI) = []) = False := by simpa using hab
      by_cases hz : s = []
      · subst hz
        have o3 := ownAt_pos (b := 0) (List.length_pos_iff.2 hab)
        have o4 := tailAt_pos (sz := 1) (List.length_pos_iff.2 hab)
        have hlen : a.binds.length ≤ 1073741824 := by simpa using hlen
        rcases hs2 with rfl | ⟨rfl, h⟩
        · unfold fn232_l0
          simp -implicitDefEqProofs only [code_skip, code_ops, code_seq, code_cond, code_block, ops_cons, ops_nil, aOp, opd, upd_at, upd_none, kt_cons, stepVal, stepHeap, aBin, aInt, aIndexList, isShift, aLoad1, aStore, readAt, aField, leaf, acells_agg, cellsSet, gc_mk, isTrim_cons, gcIds_mk, newIds_nil, newIds_cons, gcMap_at, posOf, ren, renC, renO_tail, idsV, idsC, aAppend, isData_list_none, isData_list_tail, isData_int, Option.map_some, Option.getD_some, List.map_cons, List.map_nil, List.flatMap_cons, List.flatMap_nil, List.length_cons, List.length_nil, List.length_map, List.cons_append, List.nil_append, List.append_nil, List.getElem?_cons_zero, List.getElem?_cons_succ, List.set_cons_zero, List.take_succ_cons, List.take_zero, List.drop_succ_cons, List.drop_zero, List.take_nil, List.drop_nil, List.all_cons, List.all_nil, List.not_mem_nil, ↓reduceIte, Bool.and_true, Bool.false_eq_true, not_false_eq_true, decide_true, decide_false, and_self, Nat.le_refl, Nat.zero_le, Nat.zero_add, Nat.reduceEqDiff, Nat.reduceAdd, Nat.reduceLT, Int.toNat_natCast, Int.natCast_nonneg, roundF_eq, maxLen_eq, kt_nil, ownAt_zero, tailAt_zero, encAlt_eq, data_Ints, data_Alts, h1, h2, h3, hab', hlen, hs3, o3, o4]
        · exact absurd rfl h
      · have o1 := ownAt_pos (b := 0) (List.length_pos_iff.2 hz)
        have o2 := tailAt_pos (sz := 1) (List.length_pos_iff.2 hz)
        have hpos := List.length_pos_iff.2 hz
        have o3 : ownAt 0 (s.length + a.binds.length) = some (some 0) := ownAt_pos (by omega)
        have o4 : tailAt 1 (s.length + a.binds.length) = [.tail (s.length + a.binds.length) 1] := tailAt_pos (by omega)
        rcases hs2 with rfl | ⟨rfl, h⟩ <;> unfold fn232_l0 <;> simp -implicitDefEqProofs only [code_skip, code_ops, code_seq, code_cond, code_block, ops_cons, ops_nil, aOp, opd, upd_at, upd_none, kt_cons, stepVal, stepHeap, aBin, aInt, aIndexList, isShift, aLoad1, aStore, readAt, aField, leaf, acells_agg, cellsSet, gc_mk, isTrim_cons, gcIds_mk, newIds_nil, newIds_cons, gcMap_at, posOf, ren, renC, renO_tail, idsV, idsC, idsO_tail, aAppend, isData_list_none, isData_list_tail, isData_int, isDataL_append, Option.map_some, Option.getD_some, List.map_cons, List.map_nil, List.flatMap_cons, List.flatMap_nil, List.length_cons, List.length_nil, List.length_append, List.length_map, List.cons_append, List.nil_append, List.append_nil, List.getElem?_cons_zero, List.getElem?_cons_succ, List.set_cons_zero, List.set_cons_succ, List.take_succ_cons, List.take_zero, List.drop_succ_cons, List.drop_zero, List.take_nil, List.drop_nil, List.all_cons, List.all_nil, List.not_mem_nil, ↓reduceIte, Bool.and_true, Bool.false_eq_true, and_true, not_false_eq_true, decide_true, decide_false, and_self, Nat.le_refl, Nat.zero_le, Nat.zero_add, Nat.reduceEqDiff, Nat.reduceAdd, Nat.reduceLT, Nat.reduceLeDiff, Int.toNat_natCast, Int.natCast_nonneg, roundF_eq, maxLen_eq, List.map_append, kt_nil, encAlt_eq, data_Ints, data_Alts, h1, h2, h3, hab', hlen, hs1, hs3, o1, o2, o3, o4]
  · intro s hs
    have h0 := append_c as.length
    unfold b232 e232
    cases s with
    | nil => 
      rcases hs.2 with rfl | ⟨rfl, h⟩
      · unfold fn232_l0
        simp -implicitDefEqProofs only [code_ops, code_seq, code_cond, code_exit, ops_cons, ops_nil, aOp, opd, upd_at, kt_cons, stepVal, aBin, aInt, isShift, gcE, gc_mk, isTrim_cons, gcIds_mk, newIds_nil, gcMap_at, posOf, ren, renC, renO_gone, idsV, idsC, isData_list_full, isDataL_nil, Option.getD_none, List.map_cons, List.map_nil, List.flatMap_cons, List.flatMap_nil, List.length_nil, List.append_nil, List.getElem?_nil, List.take_nil, ↓reduceIte, Bool.false_eq_true, decide_false, Nat.le_refl, Nat.reduceEqDiff, roundF_eq, kt_nil, ownAt_zero, tailAt_zero, h0]
      · exact absurd rfl h
    | cons x s =>
      rcases hs.2 with rfl | ⟨rfl, h⟩ <;> unfold fn232_l0 <;> simp -implicitDefEqProofs only [code_ops, code_seq, code_cond, code_exit, ops_cons, ops_nil, aOp, opd, upd_at, kt_cons, stepVal, aBin, aInt, isShift, gcE, gc_mk, isTrim_cons, gcIds_mk, newIds_nil, newIds_cons, gcMap_at, posOf, ren, renC, renO_tail, idsV, idsC, idsO_tail, isData_list_tail, isData_int, isDataL_cons, Option.getD_some, List.map_cons, List.map_nil, List.flatMap_cons, List.flatMap_nil, List.length_cons, List.length_nil, List.nil_append, List.append_nil, List.getElem?_cons_zero, List.take_succ_cons, List.take_zero, List.take_nil, List.not_mem_nil, ↓reduceIte, Bool.and_true, Bool.false_eq_true, and_true, not_false_eq_true, decide_false, and_self, Nat.le_refl, Nat.zero_le, Nat.zero_add, Nat.reduceEqDiff, Nat.reduceLT, Nat.reduceLeDiff, roundF_eq, kt_nil, ownAt_succ, tailAt_succ, encI_eq, data_Ints, h0]
include hL
theorem binders_ok (h232 : L.fns 232 = some fn232) (op n : Int) (binds : List Int) (K : AVal) (hK : isData K = true) (as : List CAlt) (hl : as.length < 2 ^ 30) (ht : (binds ++ as.flatMap (·.binds)).length ≤ 2 ^ 30) (h : Heap) :
    pcall L 232 [.vptr [.int .i64 op, .int .i64 n, .list (binds.map encI) none, K, .list (as.map encAlt) none] 0] h = some (.val (.list ((bindersOf op binds as).map encI) none), h) := by
  refine pcall_fn hL h232 (by rw [isData_list_none]; exact data_Ints _) ?_ h
  have tail : ∀ (s0 : List Int) (tm : Tmps), (s0 ++ as.flatMap (·.binds)).length ≤ 2 ^ 30 → tm 0 = .vptr [.int .i64 op, .int .i64 n, .list (binds.map encI) none, K, .list (as.map encAlt) none] 0 → tm 3 = .list (s0.map encI) (ownAt 0 s0.length) →
      outOf (endFn [.tmp 2] (aCode L.pure (call L) fn232_t ⟨tm, tailAt 1 s0.length⟩)) = some (.val (.list ((s0 ++ as.flatMap (·.binds)).map encI) none)) := by
    intro s0 tm hlen h0 h3
    have hloop := binders_l0 (L := L) as hl s0 hlen
    unfold b232 e232 at hloop
    simp only [Int.natCast_zero] at hloop
    generalize s0 ++ as.flatMap (·.binds) = r at *
    rcases own_cases 0 1 s0.length with ⟨o1, o2⟩ | ⟨o1, o2⟩ <;> rw [o1, o2] at hloop <;> rw [o1] at h3 <;> rw [o2] <;>
      rcases own_cases 0 1 r.length with ⟨o3, o4⟩ | ⟨o3, o4⟩ <;> rw [o3, o4] at hloop <;> simp only [List.length_nil, List.length_cons, Nat.zero_add] at hloop <;>
      unfold fn232_t <;> simp -implicitDefEqProofs only [code_ops, code_seq, code_ret, ops_cons, ops_nil, aOp, opd, upd_at, kt_cons, stepVal, aLen, aLoad1, aField, endFn, aResults, aResult, tupled, code_loopF, gc_mk, isTrim_cons, gcIds_mk, newIds_nil, newIds_cons, gcMap_at, posOf, ren, renC, renO_gone, renO_tail, idsV, idsC, idsO_tail, wipeR_list, isData_list_none, isData_list_full, isData_list_tail, isData_int, Option.getD_none, List.map_cons, List.map_nil, List.flatMap_cons, List.flatMap_nil, List.length_cons, List.length_nil, List.length_map, List.append_nil, List.getElem?_nil, List.getElem?_cons_zero, List.getElem?_cons_succ, List.take_succ_cons, List.take_nil, List.not_mem_nil, ↓reduceIte, Bool.false_eq_true, and_true, not_false_eq_true, decide_false, Nat.le_refl, Nat.zero_add, Nat.reduceEqDiff, Nat.reduceLT, Nat.reduceLeDiff, outOf_val, data_Ints, data_Alts, h0, h3, hloop]
  have hlB : (as.flatMap (·.binds)).length ≤ 2 ^ 30 := by rw [List.length_append] at ht; omega
  have hall := all_Ints binds
  have hbl : binds.length ≤ 1073741824 := by rw [List.length_append] at ht; omega
  unfold bindersOf
  have T := tail
  cases ho : opBinds op with
  | true =>
    have e : (op == 2) = true ∨ ((op == 2) = false ∧ (op == 4) = true) ∨ ((op == 2) = false ∧ (op == 4) = false ∧ (op == 5) = true) := by
      unfold opBinds at ho
      revert ho
      cases (op == 2) <;> cases (op == 4) <;> cases (op == 5) <;> simp
    rw [if_pos rfl]
    unfold fn232 fn232_b
    by_cases hb : binds = []
    · subst hb
      have T0 := T [] 
      simp only [List.map_nil, List.length_nil, ownAt_zero, tailAt_zero, List.nil_append] at T0
      generalize fn232_t = t at *
      rcases e with e1 | ⟨e1, e2⟩ | ⟨e1, e2, e3⟩
      · simp -implicitDefEqProofs only [code_ops, code_seq, code_cond, ops_cons, ops_cons_g, ops_nil, aOp, opd, upd_at, initTm_at, stepVal, aBin, aInt, isShift, aWanted, aLoad1, aField, endFn, aResults, aResult, tupled, aAppend, beqTF, Option.getD_some, List.map_nil, List.nil_append, List.getElem?_cons_zero, List.getElem?_cons_succ, ↓reduceIte, Bool.false_eq_true, reduceCtorEq, Nat.add_zero, Nat.zero_add, Nat.reduceEqDiff, e1]
        refine T0 _ hlB ?_ ?_ <;> simp -implicitDefEqProofs only [upd_at, initTm_at, Option.getD_some, List.getElem?_cons_zero, ↓reduceIte, reduceCtorEq]
      · simp -implicitDefEqProofs only [code_ops, code_seq, code_cond, ops_cons, ops_cons_g, ops_nil, aOp, opd, upd_at, initTm_at, stepVal, aBin, aInt, isShift, aWanted, aLoad1, aField, endFn, aResults, aResult, tupled, aAppend, beqTF, beq_self_eq_true, Option.getD_some, List.map_nil, List.nil_append, List.getElem?_cons_zero, List.getElem?_cons_succ, ↓reduceIte, Bool.false_eq_true, reduceCtorEq, Nat.add_zero, Nat.zero_add, Nat.reduceEqDiff, e1, e2]
        refine T0 _ hlB ?_ ?_ <;> simp -implicitDefEqProofs only [upd_at, initTm_at, Option.getD_some, List.getElem?_cons_zero, ↓reduceIte, reduceCtorEq]
      · simp -implicitDefEqProofs only [code_ops, code_seq, code_cond, ops_cons, ops_cons_g, ops_nil, aOp, opd, upd_at, initTm_at, stepVal, aBin, aInt, isShift, aWanted, aLoad1, aField, endFn, aResults, aResult, tupled, aAppend, beq_self_eq_true, Option.getD_some, List.map_nil, List.nil_append, List.getElem?_cons_zero, List.getElem?_cons_succ, ↓reduceIte, Bool.false_eq_true, reduceCtorEq, Nat.add_zero, Nat.zero_add, Nat.reduceEqDiff, e1, e2, e3]
        refine T0 _ hlB ?_ ?_ <;> simp -implicitDefEqProofs only [upd_at, initTm_at, Option.getD_some, List.getElem?_cons_zero, ↓reduceIte, reduceCtorEq]
    · have hb' : ((binds.map encI) = []) = False := by simpa using hb
      have o1 := ownAt_pos (b := 0) (List.length_pos_iff.2 hb)
      have o2 := tailAt_pos (sz := 1) (List.length_pos_iff.2 hb)
      have T1 := T binds
      rw [o1, o2, List.map_append] at T1
      generalize fn232_t = t at *
      rcases e with e1 | ⟨e1, e2⟩ | ⟨e1, e2, e3⟩
      · simp -implicitDefEqProofs only [code_ops, code_seq, code_cond, ops_cons, ops_cons_g, ops_nil, aOp, opd, upd_at, initTm_at, stepVal, aBin, aInt, isShift, aWanted, aLoad1, aField, endFn, aResults, aResult, tupled, aAppend, beqTF, Option.getD_some, List.length_nil, List.length_map, List.nil_append, List.getElem?_cons_zero, List.getElem?_cons_succ, List.all_nil, ↓reduceIte, Bool.false_eq_true, and_self, reduceCtorEq, Nat.add_zero, Nat.zero_add, Nat.reduceEqDiff, maxLen_eq, List.map_append, e1, hb', hall, hbl]
        refine T1 _ ht ?_ ?_ <;> simp -implicitDefEqProofs only [upd_at, initTm_at, Option.getD_some, List.getElem?_cons_zero, ↓reduceIte, reduceCtorEq]
      · simp -implicitDefEqProofs only [code_ops, code_seq, code_cond, ops_cons, ops_cons_g, ops_nil, aOp, opd, upd_at, initTm_at, stepVal, aBin, aInt, isShift, aWanted, aLoad1, aField, endFn, aResults, aResult, tupled, aAppend, beqTF, beq_self_eq_true, Option.getD_some, List.length_nil, List.length_map, List.nil_append, List.getElem?_cons_zero, List.getElem?_cons_succ, List.all_nil, ↓reduceIte, Bool.false_eq_true, and_self, reduceCtorEq, Nat.add_zero, Nat.zero_add, Nat.reduceEqDiff, maxLen_eq, List.map_append, e1, e2, hb', hall, hbl]
        refine T1 _ ht ?_ ?_ <;> simp -implicitDefEqProofs only [upd_at, initTm_at, Option.getD_some, List.getElem?_cons_zero, ↓reduceIte, reduceCtorEq]
      · simp -implicitDefEqProofs only [code_ops, code_seq, code_cond, ops_cons, ops_cons_g, ops_nil, aOp, opd, upd_at, initTm_at, stepVal, aBin, aInt, isShift, aWanted, aLoad1, aField, endFn, aResults, aResult, tupled, aAppend, beq_self_eq_true, Option.getD_some, List.length_nil, List.length_map, List.nil_append, List.getElem?_cons_zero, List.getElem?_cons_succ, List.all_nil, ↓reduceIte, Bool.false_eq_true, and_self, reduceCtorEq, Nat.add_zero, Nat.zero_add, Nat.reduceEqDiff, maxLen_eq, List.map_append, e1, e2, e3, hb', hall, hbl]
        refine T1 _ ht ?_ ?_ <;> simp -implicitDefEqProofs only [upd_at, initTm_at, Option.getD_some, List.getElem?_cons_zero, ↓reduceIte, reduceCtorEq]
  | false =>
    have e : (op == 2) = false ∧ (op == 4) = false ∧ (op == 5) = false := by
      unfold opBinds at ho
      revert ho
      cases (op == 2) <;> cases (op == 4) <;> cases (op == 5) <;> simp
    obtain ⟨e1, e2, e3⟩ := e
    rw [if_neg (by decide)]
    unfold fn232
    generalize fn232_t = t at *
    simp -implicitDefEqProofs only [code_skip, code_ops, code_seq, code_cond, ops_cons, ops_cons_g, ops_nil, aOp, opd, upd_at, initTm_at, stepVal, aBin, aInt, isShift, aWanted, aLoad1, aField, endFn, aResults, aResult, tupled, beq_self_eq_true, Option.getD_some, List.nil_append, List.getElem?_cons_zero, ↓reduceIte, Bool.false_eq_true, reduceCtorEq, Nat.add_zero, Nat.reduceEqDiff, e1, e2, e3]
    have := T [] 
    rw [List.nil_append] at this
    exact this _ hlB (by simp -implicitDefEqProofs only [upd_at, initTm_at, Option.getD_some, List.getElem?_cons_zero, ↓reduceIte, reduceCtorEq]) (by simp -implicitDefEqProofs only [upd_at, List.map_nil, List.length_nil, ↓reduceIte, Nat.reduceEqDiff, ownAt_zero])
def boundOf (op : Int) (binds : List Int) (as : List CAlt) (k : Nat) : List Int :=
  if op = 2 ∨ op = 5 ∨ (op = 4 ∧ k = 1) then binds else if 0 < k then (match as[k - 1]? with | some a => a.binds | none => []) else []
theorem bound_ok (h236 : L.fns 236 = some fn236) (op n : Int) (binds : List Int) (K : AVal) (as : List CAlt) (hl : as.length < 2 ^ 30) (k : Nat) (hk : k < 2 ^ 30) (h : Heap) :
    pcall L 236 [.vptr [.int .i64 op, .int .i64 n, .list (binds.map encI) none, K, .list (as.map encAlt) none] 0, .int .i64 k] h = some (.val (.list ((boundOf op binds as k).map encI) none), h) := by
  refine pcall_fn hL h236 (by rw [isData_list_none]; exact data_Ints _) ?_ h
  unfold boundOf
  by_cases h2 : op = 2
  · subst h2
    unfold fn236
    simp -implicitDefEqProofs only [code_skip, code_ops, code_seq, code_cond, code_block, code_ret, ops_cons, ops_nil, aOp, opd, upd_at, initTm_at, stepVal, aBin, aInt, isShift, aLoad1, aField, endFn, aResults, aResult, tupled, wipeR_list, beq_self_eq_true, Option.getD_some, List.getElem?_cons_zero, List.getElem?_cons_succ, ↓reduceIte, Bool.false_eq_true, false_and, or_false, reduceCtorEq, Nat.add_zero, Nat.zero_add, Int.reduceEq, outOf_val]
  by_cases h5 : op = 5
  · subst h5
    unfold fn236
    simp -implicitDefEqProofs only [code_skip, code_ops, code_seq, code_cond, code_block, code_ret, ops_cons, ops_nil, aOp, opd, upd_at, initTm_at, stepVal, aBin, aInt, isShift, aLoad1, aField, endFn, aResults, aResult, tupled, wipeR_list, beq_self_eq_true, Option.getD_some, List.getElem?_cons_zero, List.getElem?_cons_succ, ↓reduceIte, Bool.false_eq_true, false_and, or_true, or_false, reduceCtorEq, Nat.add_zero, Nat.zero_add, Int.reduceEq, Int.reduceBEq, outOf_val]
  have e2 : (op == 2) = false := by simpa using h2
  have e5 : (op == 5) = false := by simpa using h5
  have rest : ∀ (b4 : Bool), (op == 4) = b4 → (b4 = true → ((k : Int) == 1) = false) →
      outOf (endFn fn236.results (aCode L.pure (call L) fn236.body ⟨initTm [.vptr [.int .i64 op, .int .i64 n, .list (binds.map encI) none, K, .list (as.map encAlt) none] 0, .int .i64 k], []⟩)) =
        some (.val (.list ((if 0 < k then (match as[k - 1]? with | some a => a.binds | none => []) else []).map encI) none)) := by
    intro b4 e4 hb
    by_cases ha : (0 : Int) < as.length
    · by_cases h0 : (0 : Int) < k
      · have h0' : 0 < k := by omega
        by_cases hle : (k : Int) ≤ as.length
        · have hlt : k - 1 < as.length := by omega
          have w : IntKind.i64.wrap ((k : Int) - 1) = ((k - 1 : Nat) : Int) := by rw [wrap64 (by omega) (by omega)]; omega
          have g : (as.map encAlt)[k - 1]? = some (encAlt as[k - 1]) := by simp [hlt]
          rw [if_pos h0', List.getElem?_eq_getElem hlt]
          dsimp only
          generalize as[k - 1] = a at *
          cases b4 with
          | true => have hb := hb rfl; unfold fn236; simp -implicitDefEqProofs only [code_ops, code_seq, code_cond, code_block, code_ret, ops_cons, ops_cons_g, ops_nil, aOp, opd, upd_at, initTm_at, stepVal, aBin, aLen, aInt, aIndexList, isShift, aWanted, aLoad1, aField, acells_agg, endFn, aResults, aResult, tupled, wipeR_list, beq_self_eq_true, Option.getD_some, List.length_cons, List.length_nil, List.length_map, List.getElem?_cons_zero, List.getElem?_cons_succ, ↓reduceIte, Bool.false_eq_true, decide_true, reduceCtorEq, Nat.add_zero, Nat.zero_add, Nat.reduceEqDiff, Nat.reduceAdd, Int.toNat_natCast, Int.natCast_nonneg, gt_iff_lt, outOf_val, encAlt_eq, e2, e5, e4, hb, ha, h0, hle, w, g]
          | false => unfold fn236; simp -implicitDefEqProofs only [code_ops, code_seq, code_cond, code_block, code_ret, ops_cons, ops_cons_g, ops_nil, aOp, opd, upd_at, initTm_at, stepVal, aBin, aLen, aInt, aIndexList, isShift, aWanted, aLoad1, aField, acells_agg, endFn, aResults, aResult, tupled, wipeR_list, beqFT, beq_self_eq_true, Option.getD_some, List.length_cons, List.length_nil, List.length_map, List.getElem?_cons_zero, List.getElem?_cons_succ, ↓reduceIte, Bool.false_eq_true, decide_true, reduceCtorEq, Nat.add_zero, Nat.zero_add, Nat.reduceEqDiff, Nat.reduceAdd, Int.toNat_natCast, Int.natCast_nonneg, gt_iff_lt, outOf_val, encAlt_eq, e2, e5, e4, ha, h0, hle, w, g]
        · rw [if_pos h0', List.getElem?_eq_none (by omega)]
          dsimp only
          cases b4 with
          | true => have hb := hb rfl; unfold fn236; simp -implicitDefEqProofs only [code_skip, code_ops, code_seq, code_cond, code_block, code_ret, ops_cons, ops_cons_g, ops_nil, aOp, opd, upd_at, initTm_at, stepVal, aBin, aLen, aInt, isShift, aWanted, aLoad1, aField, endFn, aResults, aResult, tupled, wipeR_list, beq_self_eq_true, Option.getD_some, List.map_nil, List.length_map, List.getElem?_cons_zero, List.getElem?_cons_succ, ↓reduceIte, Bool.false_eq_true, decide_true, decide_false, reduceCtorEq, Nat.add_zero, Nat.zero_add, Nat.reduceEqDiff, gt_iff_lt, outOf_val, e2, e5, e4, hb, ha, h0, hle]
          | false => unfold fn236; simp -implicitDefEqProofs only [code_skip, code_ops, code_seq, code_cond, code_block, code_ret, ops_cons, ops_cons_g, ops_nil, aOp, opd, upd_at, initTm_at, stepVal, aBin, aLen, aInt, isShift, aWanted, aLoad1, aField, endFn, aResults, aResult, tupled, wipeR_list, beqFT, beq_self_eq_true, Option.getD_some, List.map_nil, List.length_map, List.getElem?_cons_zero, List.getElem?_cons_succ, ↓reduceIte, Bool.false_eq_true, decide_true, decide_false, reduceCtorEq, Nat.add_zero, Nat.zero_add, Nat.reduceEqDiff, gt_iff_lt, outOf_val, e2, e5, e4, ha, h0, hle]
      · rw [if_neg (by omega)]
        cases b4 with
        | true => have hb := hb rfl; unfold fn236; simp -implicitDefEqProofs only [code_skip, code_ops, code_seq, code_cond, code_block, code_ret, ops_cons, ops_cons_g, ops_nil, aOp, opd, upd_at, initTm_at, stepVal, aBin, aLen, aInt, isShift, aWanted, aLoad1, aField, endFn, aResults, aResult, tupled, wipeR_list, beqFT, beq_self_eq_true, Option.getD_some, List.map_nil, List.length_map, List.getElem?_cons_zero, List.getElem?_cons_succ, ↓reduceIte, Bool.false_eq_true, decide_true, decide_false, reduceCtorEq, Nat.add_zero, Nat.zero_add, Nat.reduceEqDiff, gt_iff_lt, outOf_val, e2, e5, e4, hb, ha, h0]
        | false => unfold fn236; simp -implicitDefEqProofs only [code_skip, code_ops, code_seq, code_cond, code_block, code_ret, ops_cons, ops_cons_g, ops_nil, aOp, opd, upd_at, initTm_at, stepVal, aBin, aLen, aInt, isShift, aWanted, aLoad1, aField, endFn, aResults, aResult, tupled, wipeR_list, beqFT, beq_self_eq_true, Option.getD_some, List.map_nil, List.length_map, List.getElem?_cons_zero, List.getElem?_cons_succ, ↓reduceIte, Bool.false_eq_true, decide_true, decide_false, reduceCtorEq, Nat.add_zero, Nat.zero_add, Nat.reduceEqDiff, gt_iff_lt, outOf_val, e2, e5, e4, ha, h0]
    · have : as = [] := List.length_eq_zero_iff.1 (by omega)
      subst this
      have hx : (if 0 < k then (match ([] : List CAlt)[k - 1]? with | some a => a.binds | none => []) else []) = ([] : List Int) := by
        split <;> simp
      rw [hx]
      cases b4 with
      | true => have hb := hb rfl; unfold fn236; simp -implicitDefEqProofs only [code_skip, code_ops, code_seq, code_cond, code_block, code_ret, ops_cons, ops_cons_g, ops_nil, aOp, opd, upd_at, initTm_at, stepVal, aBin, aLen, aInt, isShift, aWanted, aLoad1, aField, endFn, aResults, aResult, tupled, wipeR_list, beqFT, beq_self_eq_true, Option.getD_some, List.map_nil, List.length_nil, List.getElem?_cons_zero, List.getElem?_cons_succ, ↓reduceIte, Bool.false_eq_true, decide_false, reduceCtorEq, Nat.add_zero, Nat.zero_add, Nat.reduceEqDiff, Int.reduceLT, Int.cast_ofNat_Int, gt_iff_lt, outOf_val, e2, e5, e4, hb]
      | false => unfold fn236; simp -implicitDefEqProofs only [code_skip, code_ops, code_seq, code_cond, code_block, code_ret, ops_cons, ops_cons_g, ops_nil, aOp, opd, upd_at, initTm_at, stepVal, aBin, aLen, aInt, isShift, aWanted, aLoad1, aField, endFn, aResults, aResult, tupled, wipeR_list, beqFT, Option.getD_some, List.map_nil, List.length_nil, List.getElem?_cons_zero, List.getElem?_cons_succ, ↓reduceIte, Bool.false_eq_true, decide_false, reduceCtorEq, Nat.add_zero, Nat.zero_add, Nat.reduceEqDiff, Int.reduceLT, Int.cast_ofNat_Int, gt_iff_lt, outOf_val, e2, e5, e4]
  by_cases h4 : op = 4
  · by_cases hk1 : k = 1
    · subst h4 hk1
      unfold fn236
      simp -implicitDefEqProofs only [code_ops, code_seq, code_cond, code_block, code_ret, ops_cons, ops_cons_g, ops_nil, aOp, opd, upd_at, initTm_at, stepVal, aBin, aInt, isShift, aWanted, aLoad1, aField, endFn, aResults, aResult, tupled, wipeR_list, beq_self_eq_true, Option.getD_some, List.getElem?_cons_zero, List.getElem?_cons_succ, ↓reduceIte, Bool.false_eq_true, or_true, and_self, reduceCtorEq, Nat.add_zero, Nat.zero_add, Nat.reduceEqDiff, Int.reduceEq, Int.reduceBEq, Int.cast_ofNat_Int, outOf_val, Int.natCast_one]
    · rw [if_neg (by omega)]
      exact rest true (by simpa using h4) (fun _ => by simp; omega)
  · rw [if_neg (by omega)]
    exact rest false (by simpa using h4) (fun h => by cases h)
end
end Go.Abs
