/-
  Equality of lists of numbers, and of trees up to names: the walk. Conditions: none.
-/
import Derived.Test.YtciacognbcgfiaaDoorCoreS
set_option linter.unusedVariables false
set_option linter.unusedSimpArgs false
set_option maxRecDepth 100000
set_option maxHeartbeats 4000000
namespace Go.Abs
def intsNe (b : List Int) (i : Nat) (x : Int) : Bool := !(x == b.getD i 0)
theorem ints_eq {a b : List Int} (h : a.length = b.length) : (findFrom (fun i x => if intsNe b i x = true then some () else none) a 0).isSome = !decide (a = b) := by
  rw [Bool.eq_iff_iff, find_idx (intsNe b) a 0]
  simp only [Bool.not_eq_true', decide_eq_false_iff_not]
  constructor
  · rintro ⟨i, hi, hn⟩ e
    subst e
    unfold intsNe at hn
    rw [Nat.zero_add, List.getD_eq_getElem?_getD, List.getElem?_eq_getElem hi] at hn
    simp at hn
  · intro hne
    refine Classical.byContradiction fun hx => hne ?_
    refine List.ext_getElem h fun i h1 h2 => ?_
    refine Classical.byContradiction fun hd => hx ⟨i, h1, ?_⟩
    unfold intsNe
    rw [Nat.zero_add, List.getD_eq_getElem?_getD, List.getElem?_eq_getElem h2]
    simpa using hd
section
variable {L : Lib} (hL : Plain L)
include hL
theorem eqInts139 (hf : L.fns 139 = some fn139) (a b : List Int) (ha : a.length < 2 ^ 30) (h : Heap) : pcall L 139 [.list (a.map encI) none, .list (b.map encI) none] h = some (.val (.bool (decide (a = b))), h) := by
  refine pcall_fn hL hf rfl ?_ h
  by_cases hl : a.length = b.length
  · have hs := ints_eq hl
    have hround : ∀ (i : Nat) (hi : i < a.length), roundF L.pure (call L) 0 [0, 1, 12, 13] [4] fn139_l0 ⟨kt [0, 1, 12, 13] [.list (a.map encI) none, .list (b.map encI) none, .int .i64 a.length, .int .i64 i], []⟩ =
        some (if intsNe b i a[i] = true then (.ret, ⟨kt [4] [.bool false], []⟩) else (.normal, ⟨kt [0, 1, 12, 13] [.list (a.map encI) none, .list (b.map encI) none, .int .i64 a.length, .int .i64 ((i + 1 : Nat) : Int)], []⟩)) := by
      intro i hi
      obtain ⟨h1, h2, h3⟩ := round_c encI a ha i hi
      have h4 : (b.map encI)[i]? = some (encI (b.getD i 0)) := by
        have : i < b.length := by omega
        simp [this]
      unfold intsNe
      generalize a[i] = x at *
      generalize b.getD i 0 = y at *
      cases hq : (x == y) <;> unfold fn139_l0 <;> simp -implicitDefEqProofs only [code_skip, code_ops, code_draw, code_seq, code_cond, code_block, code_ret, ops_cons, ops_nil, aOp, opd, upd_at, kt_cons, stepVal, aBin, aInt, aIndexList, isShift, aWanted, aLoad1, acells_int, gcE, gc_mk, isTrim_cons, gcIds_mk, newIds_nil, gcMap_at, posOf, ren, renC, renO_gone, idsV, idsC, draw_eq, opsH_nil, opsH_cons, isLoud, isData_list_none, isData_bool, isData_int, Option.getD_none, List.map_cons, List.map_nil, List.flatMap_cons, List.flatMap_nil, List.length_cons, List.length_nil, List.nil_append, List.append_nil, List.getElem?_nil, List.getElem?_cons_zero, List.take_nil, ↓reduceIte, Bool.not_true, Bool.not_false, Bool.false_eq_true, decide_true, decide_false, Nat.le_refl, reduceCtorEq, Nat.zero_add, Nat.reduceEqDiff, Int.toNat_natCast, Int.natCast_nonneg, roundF_eq, checksP_nil, drawTo_if, kt_nil, encI_eq, data_Ints, h1, h2, h3, h4, hq, bne]
    have hloop := loopF_find (pure := L.pure) (call := call L) (b := 0) (keep := [0, 1, 12, 13]) (fk := [4]) (id := 0) (body := fn139_l0) a (fun i x => if intsNe b i x = true then some () else none)
      (fun i => ⟨kt [0, 1, 12, 13] [.list (a.map encI) none, .list (b.map encI) none, .int .i64 a.length, .int .i64 i], []⟩) ⟨kt [4] [.junk], []⟩ (fun _ => ⟨kt [4] [.bool false], []⟩)
      (by
        intro i hi hq
        rw [hround i hi, if_neg]
        intro hx
        simp [hx] at hq)
      (by
        intro i hi r hq
        cases hx : intsNe b i a[i] with
        | false => simp [hx] at hq
        | true => rw [hround i hi, if_pos hx])
      (by
        have h0 := append_c a.length
        unfold fn139_l0
        simp -implicitDefEqProofs only [code_ops, code_seq, code_cond, code_exit, ops_cons, ops_nil, aOp, opd, upd_at, kt_cons, stepVal, aBin, aInt, isShift, gcE, gc_mk, isTrim_cons, gcIds_mk, newIds_nil, gcMap_at, posOf, ren, renC, renO_gone, idsV, idsC, isData_junk, Option.getD_none, List.map_cons, List.map_nil, List.flatMap_cons, List.flatMap_nil, List.length_nil, List.append_nil, List.getElem?_nil, List.take_nil, ↓reduceIte, Bool.false_eq_true, decide_false, Nat.le_refl, reduceCtorEq, Nat.reduceEqDiff, roundF_eq, kt_nil, h0])
    simp only [Int.natCast_zero] at hloop
    have hne : ((a.length : Int) == (b.length : Int)) = true := by rw [hl]; simp
    cases hq : findFrom (fun i x => if intsNe b i x = true then some () else none) a 0 with
    | none =>
      rw [hq] at hs hloop
      have hd : decide (a = b) = true := by simpa using hs.symm
      rw [hd]
      simp only [fromFind] at hloop
      unfold fn139
      simp -implicitDefEqProofs only [code_skip, code_ops, code_seq, code_cond, code_ret, ops_cons, ops_nil, aOp, opd, upd_at, initTm_at, stepVal, aBin, aLen, aInt, isShift, endFn, aResults, aResult, tupled, code_loopF, gc_mk, isTrim_cons, gcIds_mk, newIds_nil, gcMap_at, posOf, ren, renC, renO_gone, idsV, idsC, wipeR_bool, isData_list_none, isData_int, Option.getD_some, Option.getD_none, List.map_cons, List.map_nil, List.flatMap_cons, List.flatMap_nil, List.length_nil, List.length_map, List.append_nil, List.getElem?_nil, List.getElem?_cons_zero, List.getElem?_cons_succ, List.take_nil, ↓reduceIte, Bool.not_true, Bool.false_eq_true, decide_false, Nat.le_refl, reduceCtorEq, Nat.reduceEqDiff, outOf_val, data_Ints, hne, hloop, bne]
    | some u =>
      rw [hq] at hs hloop
      have hd : decide (a = b) = false := by simpa using hs.symm
      rw [hd]
      simp only [fromFind] at hloop
      unfold fn139
      simp -implicitDefEqProofs only [code_skip, code_ops, code_seq, code_cond, ops_cons, ops_nil, aOp, opd, upd_at, initTm_at, kt_cons, stepVal, aBin, aLen, aInt, isShift, endFn, aResults, aResult, tupled, code_loopF, gc_mk, isTrim_cons, gcIds_mk, newIds_nil, gcMap_at, posOf, ren, renC, renO_gone, idsV, idsC, wipeR_bool, isData_list_none, isData_int, Option.getD_some, Option.getD_none, List.map_cons, List.map_nil, List.flatMap_cons, List.flatMap_nil, List.length_nil, List.length_map, List.append_nil, List.getElem?_nil, List.getElem?_cons_zero, List.getElem?_cons_succ, List.take_nil, ↓reduceIte, Bool.not_true, Bool.false_eq_true, decide_false, Nat.le_refl, reduceCtorEq, Nat.reduceEqDiff, outOf_val, data_Ints, hne, hloop, bne]
  · have hne : ((a.length : Int) == (b.length : Int)) = false := by simp; omega
    have hd : decide (a = b) = false := by simpa using fun e => hl (by rw [e])
    rw [hd]
    unfold fn139
    simp -implicitDefEqProofs only [code_ops, code_seq, code_cond, code_ret, ops_cons, ops_nil, aOp, opd, upd_at, initTm_at, stepVal, aBin, aLen, aInt, isShift, endFn, aResults, aResult, tupled, wipeR_bool, Option.getD_some, List.length_map, List.getElem?_cons_zero, List.getElem?_cons_succ, ↓reduceIte, Bool.not_false, Bool.false_eq_true, reduceCtorEq, Nat.reduceEqDiff, outOf_val, hne, bne]
end
section
def altNe (as : List CAlt) (i : Nat) (a : CAlt) : Bool := match as[i]? with | some c => !(a.tag == c.tag) || !((a.binds.length : Int) == c.binds.length) | none => false
def altsNe (as cs : List CAlt) : Bool := (findFrom (fun i a => if altNe cs i a = true then some () else none) as 0).isSome
def putZip (l l' : List Int) (m : IM Int) : IM Int := (l.zip l').foldl (fun m p => putK p.1 p.2 m) m
def varSame (n n' : Int) (m : IM Int) : Bool := match findK n m with | some x => x == n' | none => n == n'
mutual
def sameF : CTree → CTree → IM Int → Bool × IM Int
  | .mk op n binds kids alts, .mk op' n' binds' kids' alts', m =>
    if op ≠ op' ∨ kids.length ≠ kids'.length ∨ binds.length ≠ binds'.length ∨ alts.length ≠ alts'.length then (false, m)
    else if op = 0 then (varSame n n' m, m)
    else if n ≠ n' ∨ (op = 9 ∧ binds ≠ binds') then (false, m)
    else if altsNe alts alts' = true then (false, m)
    else sameKs kids kids' (putZip (bindersOf op binds alts) (bindersOf op' binds' alts') m)
def sameKs : List CTree → List CTree → IM Int → Bool × IM Int
  | [], _, m => (true, m)
  | k :: ks, l, m => match l with
    | [] => (true, m)
    | k' :: ks' => (match sameF k k' m with | (true, m1) => sameKs ks ks' m1 | (false, m1) => (false, m1))
end
theorem all2_len (as cs : List CAlt) (h : altsNe as cs = false) (hl : as.length = cs.length) : (as.flatMap (·.binds)).length = (cs.flatMap (·.binds)).length := by
  unfold altsNe at h
  have h2 : ∀ i (hi : i < as.length), altNe cs i as[i] = false := by
    intro i hi
    cases hq : altNe cs i as[i] with
    | false => rfl
    | true =>
      have := (find_idx (altNe cs) as 0).2 ⟨i, hi, by rw [Nat.zero_add]; exact hq⟩
      rw [h] at this
      cases this
  have h3 : as.map (fun a => a.binds.length) = cs.map (fun a => a.binds.length) := by
    refine List.ext_getElem (by simpa using hl) fun i h4 h5 => ?_
    have hi : i < as.length := by simpa using h4
    have := h2 i hi
    unfold altNe at this
    rw [List.getElem?_eq_getElem (by omega)] at this
    simp at this ⊢
    omega
  rw [List.length_flatMap, List.length_flatMap]
  exact congrArg List.sum h3
variable {L : Lib}
theorem same_l0 (op n : Int) (binds : List Int) (kids : List CTree) (alts : List CAlt) (op' n' : Int) (binds' : List Int) (kids' : List CTree) (alts' : List CAlt) (ha : alts.length < 2 ^ 30) (hl : alts.length = alts'.length) (m : IM Int) :
    loopF L.pure (call L) 1 [0, 1, 2, 134, 135] [0, 1, 2, 6] 1 fn189_l0 ⟨kt [0, 1, 2, 134, 135] [.vptr [.int .i64 op, .int .i64 n, .list (binds.map encI) none, .list (kids.map encTree) none, .list (alts.map encAlt) none] 0, .vptr [.int .i64 op', .int .i64 n', .list (binds'.map encI) none, .list (kids'.map encTree) none, .list (alts'.map encAlt) none] 0, .map (some 0), .int .i64 alts.length, .int .i64 ((0 : Nat) : Int)], [.map (encB m)]⟩ =
      some (if altsNe alts alts' = true then (.ret, ⟨kt [0, 1, 2, 6] [.vptr [.int .i64 op, .int .i64 n, .list (binds.map encI) none, .list (kids.map encTree) none, .list (alts.map encAlt) none] 0, .vptr [.int .i64 op', .int .i64 n', .list (binds'.map encI) none, .list (kids'.map encTree) none, .list (alts'.map encAlt) none] 0, .map (some 0), .bool false], [.map (encB m)]⟩) else (.normal, ⟨kt [0, 1, 2, 6] [.vptr [.int .i64 op, .int .i64 n, .list (binds.map encI) none, .list (kids.map encTree) none, .list (alts.map encAlt) none] 0, .vptr [.int .i64 op', .int .i64 n', .list (binds'.map encI) none, .list (kids'.map encTree) none, .list (alts'.map encAlt) none] 0, .map (some 0), .junk], [.map (encB m)]⟩)) := by
  have hdA := data_Alts alts
  have hdA' := data_Alts alts'
  have hdT := data_Trees kids
  have hdT' := data_Trees kids'
  have hround : ∀ (i : Nat) (hi : i < alts.length), roundF L.pure (call L) 1 [0, 1, 2, 134, 135] [0, 1, 2, 6] fn189_l0 ⟨kt [0, 1, 2, 134, 135] [.vptr [.int .i64 op, .int .i64 n, .list (binds.map encI) none, .list (kids.map encTree) none, .list (alts.map encAlt) none] 0, .vptr [.int .i64 op', .int .i64 n', .list (binds'.map encI) none, .list (kids'.map encTree) none, .list (alts'.map encAlt) none] 0, .map (some 0), .int .i64 alts.length, .int .i64 i], [.map (encB m)]⟩ =
      some (if altNe alts' i alts[i] = true then (.ret, ⟨kt [0, 1, 2, 6] [.vptr [.int .i64 op, .int .i64 n, .list (binds.map encI) none, .list (kids.map encTree) none, .list (alts.map encAlt) none] 0, .vptr [.int .i64 op', .int .i64 n', .list (binds'.map encI) none, .list (kids'.map encTree) none, .list (alts'.map encAlt) none] 0, .map (some 0), .bool false], [.map (encB m)]⟩)
        else (.normal, ⟨kt [0, 1, 2, 134, 135] [.vptr [.int .i64 op, .int .i64 n, .list (binds.map encI) none, .list (kids.map encTree) none, .list (alts.map encAlt) none] 0, .vptr [.int .i64 op', .int .i64 n', .list (binds'.map encI) none, .list (kids'.map encTree) none, .list (alts'.map encAlt) none] 0, .map (some 0), .int .i64 alts.length, .int .i64 ((i + 1 : Nat) : Int)], [.map (encB m)]⟩)) := by
    intro i hi
    obtain ⟨h1, h2, h3⟩ := round_c encAlt alts ha i hi
    have hi' : i < alts'.length := by omega
    have h4 : (alts'.map encAlt)[i]? = some (encAlt alts'[i]) := by simp [hi']
    have hv : altNe alts' i alts[i] = (!(alts[i].tag == alts'[i].tag) || !((alts[i].binds.length : Int) == alts'[i].binds.length)) := by
      unfold altNe
      rw [List.getElem?_eq_getElem hi']
    generalize altNe alts' i alts[i] = v at *
    generalize alts[i] = a at *
    generalize alts'[i] = c at *
    subst hv
    cases e1 : (a.tag == c.tag) with
    | false => unfold fn189_l0; simp -implicitDefEqProofs only [code_skip, code_ops, code_draw, code_seq, code_cond, code_block, code_ret, ops_cons, ops_nil, aOp, opd, upd_at, kt_cons, stepVal, aBin, aInt, aIndexList, isShift, aWanted, aLoad1, aField, acells_agg, gcE, gc_mk, isTrim_cons, gcIds_mk, newIds_nil, newIds_cons, gcMap_at, posOf, ren, renC, idsV, idsC, draw_eq, opsH_nil, opsH_cons, isLoud, isData_list_none, isData_bool, isData_int, isData_vptr, isData_map, isDataL_nil, isDataL_cons, beqTF, List.map_cons, List.map_nil, List.flatMap_cons, List.flatMap_nil, List.length_cons, List.length_nil, List.nil_append, List.append_nil, List.getElem?_cons_zero, List.getElem?_cons_succ, List.take_succ_cons, List.take_nil, List.not_mem_nil, ↓reduceIte, Bool.and_true, Bool.true_or, Bool.not_false, Bool.false_eq_true, and_true, not_false_eq_true, decide_true, decide_false, Nat.le_refl, reduceCtorEq, Nat.add_zero, Nat.zero_add, Nat.reduceEqDiff, Nat.reduceAdd, Nat.reduceLT, Nat.reduceLeDiff, Int.toNat_natCast, Int.natCast_nonneg, roundF_eq, checksP_nil, drawTo_if, kt_nil, encAlt_eq, data_Ints, h1, h2, h3, h4, e1, hdA, hdA', hdT, hdT', b_ids, b_ren, bne]
    | true => cases e2 : ((a.binds.length : Int) == c.binds.length) <;> unfold fn189_l0 <;> simp -implicitDefEqProofs only [code_skip, code_ops, code_draw, code_seq, code_cond, code_block, code_ret, ops_cons, ops_nil, aOp, opd, upd_at, kt_cons, stepVal, aBin, aLen, aInt, aIndexList, isShift, aWanted, aLoad1, aField, acells_agg, gcE, gc_mk, isTrim_cons, gcIds_mk, newIds_nil, newIds_cons, gcMap_at, posOf, ren, renC, idsV, idsC, draw_eq, opsH_nil, opsH_cons, isLoud, isData_list_none, isData_bool, isData_int, isData_vptr, isData_map, isDataL_nil, isDataL_cons, beq_self_eq_true, List.map_cons, List.map_nil, List.flatMap_cons, List.flatMap_nil, List.length_cons, List.length_nil, List.length_map, List.nil_append, List.append_nil, List.getElem?_cons_zero, List.getElem?_cons_succ, List.take_succ_cons, List.take_nil, List.not_mem_nil, ↓reduceIte, Bool.and_true, Bool.or_true, Bool.or_false, Bool.not_true, Bool.not_false, Bool.false_eq_true, and_true, not_false_eq_true, decide_true, decide_false, Nat.le_refl, reduceCtorEq, Nat.add_zero, Nat.zero_add, Nat.reduceEqDiff, Nat.reduceAdd, Nat.reduceLT, Nat.reduceLeDiff, Int.toNat_natCast, Int.natCast_nonneg, roundF_eq, checksP_nil, drawTo_if, kt_nil, encAlt_eq, data_Ints, h1, h2, h3, h4, e1, e2, hdA, hdA', hdT, hdT', b_ids, b_ren, bne]
  have hloop := loopF_find (pure := L.pure) (call := call L) (b := 1) (keep := [0, 1, 2, 134, 135]) (fk := [0, 1, 2, 6]) (id := 1) (body := fn189_l0) alts (fun i a => if altNe alts' i a = true then some () else none)
    (fun i => ⟨kt [0, 1, 2, 134, 135] [.vptr [.int .i64 op, .int .i64 n, .list (binds.map encI) none, .list (kids.map encTree) none, .list (alts.map encAlt) none] 0, .vptr [.int .i64 op', .int .i64 n', .list (binds'.map encI) none, .list (kids'.map encTree) none, .list (alts'.map encAlt) none] 0, .map (some 0), .int .i64 alts.length, .int .i64 i], [.map (encB m)]⟩)
    ⟨kt [0, 1, 2, 6] [.vptr [.int .i64 op, .int .i64 n, .list (binds.map encI) none, .list (kids.map encTree) none, .list (alts.map encAlt) none] 0, .vptr [.int .i64 op', .int .i64 n', .list (binds'.map encI) none, .list (kids'.map encTree) none, .list (alts'.map encAlt) none] 0, .map (some 0), .junk], [.map (encB m)]⟩ (fun _ => ⟨kt [0, 1, 2, 6] [.vptr [.int .i64 op, .int .i64 n, .list (binds.map encI) none, .list (kids.map encTree) none, .list (alts.map encAlt) none] 0, .vptr [.int .i64 op', .int .i64 n', .list (binds'.map encI) none, .list (kids'.map encTree) none, .list (alts'.map encAlt) none] 0, .map (some 0), .bool false], [.map (encB m)]⟩)
    (by
      intro i hi hq
      rw [hround i hi, if_neg]
      intro hx
      simp [hx] at hq)
    (by
      intro i hi r hq
      cases hx : altNe alts' i alts[i] with
      | false => simp [hx] at hq
      | true => rw [hround i hi, if_pos hx])
    (by
      have h0 := append_c alts.length
      unfold fn189_l0
      simp -implicitDefEqProofs only [code_ops, code_seq, code_cond, code_exit, ops_cons, ops_nil, aOp, opd, upd_at, kt_cons, stepVal, aBin, aInt, isShift, gcE, gc_mk, isTrim_cons, gcIds_mk, newIds_nil, newIds_cons, gcMap_at, posOf, ren, renC, idsV, idsC, isData_list_none, isData_int, isData_vptr, isData_map, isData_junk, isDataL_nil, isDataL_cons, List.map_cons, List.map_nil, List.flatMap_cons, List.flatMap_nil, List.length_cons, List.length_nil, List.nil_append, List.append_nil, List.take_succ_cons, List.take_nil, List.not_mem_nil, ↓reduceIte, Bool.and_true, Bool.false_eq_true, and_true, not_false_eq_true, decide_false, Nat.le_refl, reduceCtorEq, Nat.zero_add, Nat.reduceEqDiff, Nat.reduceLT, Nat.reduceLeDiff, roundF_eq, kt_nil, data_Ints, h0, hdA, hdA', hdT, hdT', b_ids, b_ren])
  rw [hloop]
  unfold altsNe
  cases findFrom (fun i a => if altNe alts' i a = true then some () else none) alts 0 <;> simp [fromFind]
theorem same_l1 (A B : AVal) (hA : isData A = true) (hB : isData B = true) (l l' : List Int) (hl : l.length < 2 ^ 30) (hll : l.length = l'.length) (m : IM Int) :
    loopF L.pure (call L) 1 [0, 1, 2, 10, 11, 182, 183] [0, 1, 2] 3 fn189_l1 ⟨kt [0, 1, 2, 10, 11, 182, 183] [A, B, .map (some 0), .list (l.map encI) none, .list (l'.map encI) none, .int .i64 l.length, .int .i64 ((0 : Nat) : Int)], [.map (encB m)]⟩ =
      some (.normal, ⟨kt [0, 1, 2] [A, B, .map (some 0)], [.map (encB (putZip l l' m))]⟩) := by
  have hz : (l.zip l').length = l.length := by rw [List.length_zip]; omega
  unfold putZip
  refine (loopF_fold (pure := L.pure) (call := call L) (l.zip l') (fun m p => putK p.1 p.2 m) (fun m i => ⟨kt [0, 1, 2, 10, 11, 182, 183] [A, B, .map (some 0), .list (l.map encI) none, .list (l'.map encI) none, .int .i64 l.length, .int .i64 i], [.map (encB m)]⟩)
    (fun m => ⟨kt [0, 1, 2] [A, B, .map (some 0)], [.map (encB m)]⟩) (fun _ _ => True) m trivial ?_ ?_).2
  · intro i hi m _
    have hi1 : i < l.length := by omega
    have hi2 : i < l'.length := by omega
    obtain ⟨h1, h2, h3⟩ := round_c encI l hl i hi1
    have h4 : (l'.map encI)[i]? = some (encI l'[i]) := by simp [hi2]
    refine ⟨?_, trivial⟩
    rw [List.getElem_zip]
    generalize l[i] = x at *
    generalize l'[i] = y at *
    have hup := fun (h : Heap) (hr : h[0]? = some (.map (encB m))) => updI h 0 x y m hr
    unfold fn189_l1
    simp -implicitDefEqProofs only [code_skip, code_ops, code_draw, code_seq, code_cond, code_block, ops_cons, ops_nil, aOp, opd, upd_at, upd_none, kt_cons, stepVal, stepHeap, aBin, aInt, aIndexList, isShift, aWanted, aLoad1, acells_int, gc_mk, isTrim_cons, gcIds_mk, newIds_nil, newIds_cons, gcMap_at, posOf, ren, renC, idsV, idsC, draw_eq, opsH_nil, opsH_cons, isLoud, isData_list_none, isData_int, isData_map, List.map_cons, List.map_nil, List.flatMap_cons, List.flatMap_nil, List.length_cons, List.length_nil, List.cons_append, List.nil_append, List.append_nil, List.getElem?_cons_zero, List.set_cons_zero, List.take_succ_cons, List.take_nil, List.not_mem_nil, ↓reduceIte, Bool.false_eq_true, and_true, not_false_eq_true, decide_true, decide_false, Nat.le_refl, reduceCtorEq, Nat.zero_add, Nat.reduceEqDiff, Nat.reduceLT, Nat.reduceLeDiff, Int.toNat_natCast, Int.natCast_nonneg, roundF_eq, checksP_nil, drawTo_if, kt_nil, encI_eq, data_Ints, h1, h2, h3, h4, hup, hA, hB, b_ids, b_ren]
  · intro m _
    have h0 := append_c l.length
    rw [hz]
    unfold fn189_l1
    simp -implicitDefEqProofs only [code_ops, code_seq, code_cond, code_exit, ops_cons, ops_nil, aOp, opd, upd_at, kt_cons, stepVal, aBin, aInt, isShift, gcE, gc_mk, isTrim_cons, gcIds_mk, newIds_nil, newIds_cons, gcMap_at, posOf, ren, renC, idsV, idsC, isData_map, List.map_cons, List.map_nil, List.flatMap_cons, List.flatMap_nil, List.length_cons, List.length_nil, List.nil_append, List.append_nil, List.take_succ_cons, List.take_nil, List.not_mem_nil, ↓reduceIte, Bool.false_eq_true, and_true, not_false_eq_true, decide_false, Nat.le_refl, reduceCtorEq, Nat.zero_add, Nat.reduceEqDiff, Nat.reduceLT, Nat.reduceLeDiff, roundF_eq, kt_nil, h0, hA, hB, b_ids, b_ren]
/-- What is asked of two trees. -/
def SameOk (L : Lib) (t t' : CTree) : Prop := ∀ m : IM Int, call L 189 [encTree t, encTree t', .map (some 0)] [.map (encB m)] = some (.val (.bool (sameF t t' m).1), [.map (encB (sameF t t' m).2)])
def sameE (_ : Nat) (m : IM Int) (p : CTree × CTree) : Except (IM Int) (IM Int) := match sameF p.1 p.2 m with | (true, m1) => .ok m1 | (false, m1) => .error m1
theorem sameKs_fold : ∀ (ks ks' : List CTree) (i : Nat) (m : IM Int), foldE sameE (ks.zip ks') i m = match sameKs ks ks' m with | (true, m1) => .ok m1 | (false, m1) => .error m1
  | [], _, i, m => by rw [List.zip_nil_left, sameKs]; rfl
  | k :: ks, [], i, m => by rw [List.zip_nil_right, sameKs]; rfl
  | k :: ks, k' :: ks', i, m => by
    rw [List.zip_cons_cons, foldE, sameKs]
    unfold sameE
    dsimp only
    rcases hq : sameF k k' m with ⟨b, m1⟩
    cases b with
    | false => rfl
    | true => exact sameKs_fold ks ks' (i + 1) m1
variable (hL : Plain L)
include hL
theorem same_l2 (op n : Int) (binds : List Int) (kids : List CTree) (alts : List CAlt) (op' n' : Int) (binds' : List Int) (kids' : List CTree) (alts' : List CAlt) (hk : kids.length < 2 ^ 30) (hl : kids.length = kids'.length) (ih : ∀ p ∈ kids.zip kids', SameOk L p.1 p.2) (m : IM Int) :
    loopF L.pure (call L) 1 [0, 1, 2, 200, 201] [6] 5 fn189_l2 ⟨kt [0, 1, 2, 200, 201] [.vptr [.int .i64 op, .int .i64 n, .list (binds.map encI) none, .list (kids.map encTree) none, .list (alts.map encAlt) none] 0, .vptr [.int .i64 op', .int .i64 n', .list (binds'.map encI) none, .list (kids'.map encTree) none, .list (alts'.map encAlt) none] 0, .map (some 0), .int .i64 kids.length, .int .i64 ((0 : Nat) : Int)], [.map (encB m)]⟩ =
      some (if (sameKs kids kids' m).1 = true then (.normal, ⟨kt [6] [.junk], [.map (encB (sameKs kids kids' m).2)]⟩) else (.ret, ⟨kt [6] [.bool false], [.map (encB (sameKs kids kids' m).2)]⟩)) := by
  have hp := hL.pure
  have hdA := data_Alts alts
  have hdA' := data_Alts alts'
  have hdT := data_Trees kids
  have hdT' := data_Trees kids'
  have hz : (kids.zip kids').length = kids.length := by rw [List.length_zip]; omega
  have key := loopF_foldE (pure := L.pure) (call := call L) (b := 1) (keep := [0, 1, 2, 200, 201]) (fk := [6]) (id := 5) (body := fn189_l2) (kids.zip kids') sameE
    (fun m i => ⟨kt [0, 1, 2, 200, 201] [.vptr [.int .i64 op, .int .i64 n, .list (binds.map encI) none, .list (kids.map encTree) none, .list (alts.map encAlt) none] 0, .vptr [.int .i64 op', .int .i64 n', .list (binds'.map encI) none, .list (kids'.map encTree) none, .list (alts'.map encAlt) none] 0, .map (some 0), .int .i64 kids.length, .int .i64 i], [.map (encB m)]⟩) (fun m => ⟨kt [6] [.junk], [.map (encB m)]⟩)
    (fun e R => R = ⟨kt [6] [.bool false], [.map (encB e)]⟩) (fun _ _ => True) m trivial ?_ ?_ ?_
  · have hf := sameKs_fold kids kids' 0 m
    rcases hq : sameKs kids kids' m with ⟨b, m1⟩
    rw [hq] at hf
    cases b with
    | true => exact (key.1 m1 hf).2
    | false =>
      obtain ⟨R, rfl, h⟩ := key.2 m1 hf
      exact h
  · intro i hi m m1 _ hq
    have hi1 : i < kids.length := by omega
    have hi2 : i < kids'.length := by omega
    obtain ⟨h1, h2, h3⟩ := round_c encTree kids hk i hi1
    have h4 : (kids'.map encTree)[i]? = some (encTree kids'[i]) := by simp [hi2]
    have hs := ih (kids.zip kids')[i] (List.getElem_mem hi) m
    refine ⟨?_, trivial⟩
    unfold sameE at hq
    rw [List.getElem_zip] at hq hs
    dsimp only at hq hs
    generalize kids[i] = k at *
    generalize kids'[i] = k' at *
    rcases hr : sameF k k' m with ⟨b, m2⟩
    rw [hr] at hq hs
    cases b with
    | false => cases hq
    | true =>
      injection hq with hq
      subst hq
      obtain ⟨tc, htc, hdt⟩ := enc_vptr k
      obtain ⟨tc', htc', hdt'⟩ := enc_vptr k'
      rw [htc, htc'] at hs
      unfold fn189_l2
      simp -implicitDefEqProofs only [code_skip, code_ops, code_draw, code_seq, code_cond, code_block, ops_cons, ops_nil, aOp, opd, upd_at, kt_cons, stepVal, aBin, aInt, aUn, aIndexList, isShift, aWanted, aLoad1, aField, acells_vptr, gc_mk, isTrim_cons, gcIds_mk, newIds_nil, newIds_cons, gcMap_at, posOf, ren, renC, idsV, idsC, draw_eq, opsH_nil, opsH_cons, isLoud, wipe_vptr, wipe_map, isData_list_none, isData_bool, isData_int, isData_vptr, isData_map, isDataL_nil, isDataL_cons, Option.getD_some, List.map_cons, List.map_nil, List.flatMap_cons, List.flatMap_nil, List.length_cons, List.length_nil, List.cons_append, List.nil_append, List.append_nil, List.getElem?_cons_zero, List.getElem?_cons_succ, List.take_succ_cons, List.take_nil, List.all_cons, List.all_nil, List.not_mem_nil, ↓reduceIte, Bool.and_true, Bool.and_false, Bool.not_true, Bool.false_eq_true, and_true, not_false_eq_true, decide_true, decide_false, and_self, Nat.le_refl, reduceCtorEq, Nat.zero_add, Nat.reduceEqDiff, Nat.reduceLT, Nat.reduceLeDiff, Int.toNat_natCast, Int.natCast_nonneg, roundF_eq, checksP_nil, drawTo_if, kt_nil, rCall_eq, rootsOf_eq, grow_eq, subHeap_eq, newOf_val, putBack_eq, pb_nil, pb_cons, backRes_val, data_Ints, h1, h2, h3, h4, htc, htc', hdt, hdt', hs, hdA, hdA', hdT, hdT', b_ids, b_ren, doCall_p L hp, hp]
  · intro i hi m e _ hq
    have hi1 : i < kids.length := by omega
    have hi2 : i < kids'.length := by omega
    obtain ⟨h1, h2, h3⟩ := round_c encTree kids hk i hi1
    have h4 : (kids'.map encTree)[i]? = some (encTree kids'[i]) := by simp [hi2]
    have hs := ih (kids.zip kids')[i] (List.getElem_mem hi) m
    refine ⟨_, rfl, ?_⟩
    unfold sameE at hq
    rw [List.getElem_zip] at hq hs
    dsimp only at hq hs
    generalize kids[i] = k at *
    generalize kids'[i] = k' at *
    rcases hr : sameF k k' m with ⟨b, m2⟩
    rw [hr] at hq hs
    cases b with
    | true => cases hq
    | false =>
      injection hq with hq
      subst hq
      obtain ⟨tc, htc, hdt⟩ := enc_vptr k
      obtain ⟨tc', htc', hdt'⟩ := enc_vptr k'
      rw [htc, htc'] at hs
      unfold fn189_l2
      simp -implicitDefEqProofs only [code_skip, code_ops, code_draw, code_seq, code_cond, code_block, code_ret, ops_cons, ops_nil, aOp, opd, upd_at, kt_cons, stepVal, aBin, aInt, aUn, aIndexList, isShift, aWanted, aLoad1, aField, acells_vptr, gcE, gc_mk, isTrim_cons, gcIds_mk, newIds_nil, newIds_cons, gcMap_at, posOf, ren, renC, idsV, idsC, draw_eq, opsH_nil, opsH_cons, isLoud, wipe_vptr, wipe_map, isData_bool, isData_vptr, isData_map, isDataL_nil, isDataL_cons, Option.getD_some, List.map_cons, List.map_nil, List.flatMap_cons, List.flatMap_nil, List.length_cons, List.length_nil, List.cons_append, List.nil_append, List.append_nil, List.getElem?_cons_zero, List.getElem?_cons_succ, List.take_succ_cons, List.take_nil, List.all_cons, List.all_nil, List.not_mem_nil, ↓reduceIte, Bool.and_true, Bool.and_false, Bool.not_false, Bool.false_eq_true, not_false_eq_true, decide_true, decide_false, and_self, Nat.le_refl, reduceCtorEq, Nat.zero_add, Nat.reduceEqDiff, Nat.reduceLT, Int.toNat_natCast, Int.natCast_nonneg, roundF_eq, checksP_nil, drawTo_if, kt_nil, rCall_eq, rootsOf_eq, grow_eq, subHeap_eq, newOf_val, putBack_eq, pb_nil, pb_cons, backRes_val, h1, h2, h3, h4, htc, htc', hdt, hdt', hs, hdA, hdA', hdT, hdT', b_ids, b_ren, doCall_p L hp, hp]
  · intro m _
    have h0 := append_c kids.length
    rw [hz]
    unfold fn189_l2
    simp -implicitDefEqProofs only [code_ops, code_seq, code_cond, code_exit, ops_cons, ops_nil, aOp, opd, upd_at, kt_cons, stepVal, aBin, aInt, isShift, gcE, gc_mk, isTrim_cons, gcIds_mk, newIds_nil, gcMap_at, posOf, ren, renC, idsV, idsC, isData_junk, List.map_cons, List.map_nil, List.flatMap_cons, List.flatMap_nil, List.length_cons, List.length_nil, List.append_nil, List.take_succ_cons, List.take_nil, ↓reduceIte, Bool.false_eq_true, decide_false, Nat.le_refl, reduceCtorEq, Nat.zero_add, Nat.reduceEqDiff, roundF_eq, kt_nil, h0, hdA, hdA', hdT, hdT', b_ids, b_ren]
end
end Go.Abs
