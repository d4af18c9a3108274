/-
  The tree of a part, its size, and the calls that tell of it. Conditions: none.
-/
import Derived.Test.YtciacognbcgfiaaDoorCoreV
import Derived.Test.YtciacognbcgfiaaDoorC
set_option linter.unusedVariables false
set_option linter.unusedSimpArgs false
set_option maxRecDepth 100000
set_option maxHeartbeats 4000000
namespace Go.Abs
section
variable {L : Lib} (hL : Plain L)
def g168a (N n i : Nat) (E : List CExpr) (x : CExpr) (cs : List AVal) (look : Int → CTree) (j : Nat) : St :=
  ⟨kt [1, 5, 6, 8, 17, 18, 19, 35, 36, 37] [.int .i64 n, .vec 0 N, .int .i64 i, .ptr (some (2, 0)), .list (E.map encExpr) none, .int .i64 E.length, .int .i64 i, .list (x.kids.map encI) none, .int .i64 x.kids.length, .int .i64 j],
    [.vec cs 1, .box [.int .i64 x.op, .int .i64 x.n, .list (x.binds.map encI) none, .list (x.kids.map encI) none, .list (x.alts.map encAlt) none],
      .box [.int .i64 x.op, .int .i64 x.n, .list (x.binds.map encI) none, .list (((x.kids.take j).map look).map encTree) (ownAt 3 j), .list (x.alts.map encAlt) none]] ++ tailAt 1 j⟩
def g168b (N n i : Nat) (E : List CExpr) (x : CExpr) (cs : List AVal) (look : Int → CTree) : St :=
  ⟨kt [1, 5, 6, 8, 17, 18, 19] [.int .i64 n, .vec 0 N, .int .i64 i, .ptr (some (2, 0)), .list (E.map encExpr) none, .int .i64 E.length, .int .i64 i],
    [.vec cs 1, .box [.int .i64 x.op, .int .i64 x.n, .list (x.binds.map encI) none, .list (x.kids.map encI) none, .list (x.alts.map encAlt) none],
      .box [.int .i64 x.op, .int .i64 x.n, .list (x.binds.map encI) none, .list ((x.kids.map look).map encTree) (ownAt 3 x.kids.length), .list (x.alts.map encAlt) none]] ++ tailAt 1 x.kids.length⟩
theorem below_l0 (N n i : Nat) (E : List CExpr) (x : CExpr) (hk : x.kids.length < 2 ^ 30) (cs : List AVal) (hcs : isDataL cs = true) (look : Int → CTree)
    (hlook : ∀ k ∈ x.kids, 0 ≤ k ∧ k < N ∧ cs[k.toNat]? = some (encTree (look k))) :
    loopF L.pure (call L) 3 [1, 5, 6, 8, 17, 18, 19, 35, 36, 37] [1, 5, 6, 8, 17, 18, 19] 2 fn168_l0 (g168a N n i E x cs look 0) = some (.normal, g168b N n i E x cs look) := by
  have hdE := data_Exprs E
  have hdX := data_Alts x.alts
  have hid := ids_data hcs
  have hre := fun ρ => ren_data ρ hcs
  refine loopF_count (g168a N n i E x cs look) x.kids.length ?_ ?_
  · intro j hj
    obtain ⟨h1, h2, h3⟩ := round_c encI x.kids hk j hj
    obtain ⟨k0, k1, k2⟩ := hlook x.kids[j] (List.getElem_mem hj)
    have htake : (x.kids.take (j + 1)).map look = (x.kids.take j).map look ++ [look x.kids[j]] := by
      rw [List.take_succ_eq_append_getElem hj, List.map_append]; rfl
    have hlen : ((x.kids.take j).map look).length = j := by simp; omega
    have hjj : j + 1 ≤ 1073741824 := by omega
    unfold g168a
    rw [htake]
    generalize x.kids[j] = k at *
    obtain ⟨m, rfl⟩ : ∃ m : Nat, k = m := ⟨k.toNat, by omega⟩
    rw [show ((m : Int).toNat) = m from rfl] at k2
    generalize look (m : Int) = t at *
    obtain ⟨tc, htc, hdt⟩ := enc_vptr t
    generalize hks : (x.kids.take j).map look = ks at *
    have hall := all_Trees ks
    have hdT := data_Trees ks
    rcases Nat.eq_zero_or_pos j with hz | hz
    · have : ks = [] := List.length_eq_zero_iff.1 (by omega)
      subst this
      have o1 : ownAt 3 j = some none := by rw [hz]; rfl
      have o2 : tailAt 1 j = [] := by rw [hz]; rfl
      have o3 : j + 1 = 1 := by omega
      unfold fn168_l0
      simp -implicitDefEqProofs only [code_skip, code_ops, code_draw, code_seq, code_cond, code_block, ops_cons, ops_nil, aOp, opd, upd_at, upd_none, kt_cons, stepVal, stepHeap, aBin, aInt, aIndexList, isShift, aWanted, aLoad1, aStore, aField, leaf, acells_int, acells_list, acells_vptr, cellsSet, gc_mk, gcIds_mk, newIds_nil, newIds_cons, gcMap_at, posOf, ren, renC, renO_box, renO_tail, idsV, idsC, idsO_box, draw_eq, opsH_nil, opsH_cons, isLoud, aAppend, wipe_vptr, isData_list_none, isData_list_tail, isData_int, isData_vptr, isData_ptr, isDataL_nil, isDataL_cons, Option.getD_some, List.map_cons, List.map_nil, List.flatMap_cons, List.flatMap_nil, List.length_cons, List.length_nil, List.cons_append, List.nil_append, List.append_nil, List.getElem?_cons_zero, List.getElem?_cons_succ, List.set_cons_zero, List.set_cons_succ, List.take_succ_cons, List.take_zero, List.drop_succ_cons, List.drop_zero, List.all_cons, List.all_nil, List.not_mem_nil, ↓reduceIte, Bool.and_true, Bool.false_eq_true, and_true, not_false_eq_true, decide_true, and_self, Nat.le_refl, Nat.zero_add, Nat.reduceEqDiff, Nat.reduceAdd, Nat.reduceLT, Nat.reduceLeDiff, Int.toNat_natCast, Int.natCast_nonneg, List.cons_ne_nil, roundF_eq, maxLen_eq, checksP_nil, drawTo_if, kt_nil, Int.cast_ofNat_Int, ownAt_succ, tailAt_succ, encI_eq, data_Ints, isData_vec, idsO_vec, renO_vec, Nat.mul_one, h1, h2, h3, k0, k1, k2, hid, hre, hdE, hdX, o1, o2, o3, htc, hdt]
    · have o1 := ownAt_pos (b := 3) hz
      have o2 := tailAt_pos (sz := 1) hz
      unfold fn168_l0
      simp -implicitDefEqProofs only [code_skip, code_ops, code_draw, code_seq, code_cond, code_block, ops_cons, ops_nil, aOp, opd, upd_at, upd_none, kt_cons, stepVal, stepHeap, aBin, aInt, aIndexList, isShift, aWanted, aLoad1, aStore, aField, leaf, acells_int, acells_list, acells_vptr, cellsSet, gc_mk, gcIds_mk, newIds_nil, newIds_cons, gcMap_at, posOf, ren, renC, renO_box, renO_tail, idsV, idsC, idsO_box, draw_eq, opsH_nil, opsH_cons, isLoud, aAppend, wipe_vptr, isData_list_none, isData_list_tail, isData_int, isData_vptr, isData_ptr, isDataL_nil, isDataL_cons, isDataL_append, Option.getD_some, List.map_cons, List.map_nil, List.flatMap_cons, List.flatMap_nil, List.length_cons, List.length_nil, List.length_map, List.cons_append, List.nil_append, List.append_nil, List.getElem?_cons_zero, List.getElem?_cons_succ, List.set_cons_zero, List.set_cons_succ, List.take_succ_cons, List.take_zero, List.drop_succ_cons, List.drop_zero, List.all_cons, List.all_nil, List.not_mem_nil, ↓reduceIte, Bool.and_true, Bool.false_eq_true, and_true, not_false_eq_true, decide_true, and_self, Nat.le_refl, Nat.zero_add, Nat.reduceEqDiff, Nat.reduceAdd, Nat.reduceLT, Nat.reduceLeDiff, Int.toNat_natCast, Int.natCast_nonneg, List.cons_ne_nil, roundF_eq, maxLen_eq, checksP_nil, drawTo_if, List.map_append, kt_nil, ownAt_succ, tailAt_succ, encI_eq, data_Ints, isData_vec, idsO_vec, renO_vec, Nat.mul_one, h1, h2, h3, k0, k1, k2, hid, hre, hdE, hdX, hall, hdT, hlen, hjj, o1, o2, htc, hdt]
  · have h0 := append_c x.kids.length
    unfold g168a g168b
    rw [List.take_length]
    have hdT := data_Trees (x.kids.map look)
    generalize x.kids.map look = ks at *
    unfold fn168_l0
    rcases own_cases 3 1 x.kids.length with ⟨o1, o2⟩ | ⟨o1, o2⟩ <;> simp -implicitDefEqProofs only [code_ops, code_seq, code_cond, code_exit, ops_cons, ops_nil, aOp, opd, upd_at, kt_cons, stepVal, aBin, aInt, isShift, gcE, gc_mk, gcIds_mk, newIds_nil, newIds_cons, gcMap_at, posOf, ren, renC, renO_box, renO_tail, idsV, idsC, idsO_box, isData_list_none, isData_list_full, isData_list_tail, isData_int, isData_ptr, Option.getD_some, List.map_cons, List.map_nil, List.flatMap_cons, List.flatMap_nil, List.length_cons, List.length_nil, List.cons_append, List.nil_append, List.append_nil, List.getElem?_cons_zero, List.getElem?_cons_succ, List.take_succ_cons, List.take_zero, List.take_nil, List.not_mem_nil, ↓reduceIte, Bool.false_eq_true, and_true, not_false_eq_true, decide_false, and_self, Nat.le_refl, Nat.zero_add, Nat.reduceEqDiff, Nat.reduceAdd, Nat.reduceLT, Nat.reduceLeDiff, roundF_eq, kt_nil, data_Ints, isData_vec, idsO_vec, renO_vec, h0, o1, o2, hid, hre, hdE, hdX, hdT]
def g168e (e : List CExpr) (n i : Nat) : St := ⟨kt [1, 5, 17, 18, 19] [.int .i64 n, .vec 0 e.length, .list ((e.take (n + 1)).map encExpr) none, .int .i64 ((e.take (n + 1)).length), .int .i64 i], [.vec (cellsAt e i) 1]⟩
include hL
theorem below_l1 (e : List CExpr) (hl : e.length < 2 ^ 30) (hf : ∀ x ∈ e, NodeFit x) (hk : Ahead e) (n : Nat) (hn : n < e.length) :
    loopF L.pure (call L) 1 [1, 5, 17, 18, 19] [1, 5] 0 fn168_l1 (g168e e n 0) = some (.normal, ⟨kt [1, 5] [.int .i64 n, .vec 0 e.length], [.vec (cellsAt e (n + 1)) 1]⟩) := by
  have hp := hL.pure
  have hEl : (e.take (n + 1)).length = n + 1 := by simp; omega
  have hdE := data_Exprs (e.take (n + 1))
  refine loopF_count (g168e e n) (e.take (n + 1)).length ?_ ?_
  · intro i hi
    have hi2 : i < e.length := by omega
    obtain ⟨h1, h2, h3⟩ := round_c encExpr (e.take (n + 1)) (by omega) i hi
    have hxe : (e.take (n + 1))[i] = e[i] := by simp
    rw [hxe] at h3
    have hx := hf e[i] (List.getElem_mem hi2)
    have hcs := cells_data e i
    have hid := ids_data hcs
    have hre := fun ρ => ren_data ρ hcs
    have hid' := ids_data (cells_data e (i + 1))
    have hre' := fun ρ => ren_data ρ (cells_data e (i + 1))
    have hfz := fun id sz cs => cells_frz e i id sz cs
    have hput := cells_put e i hi2
    have hcl := cells_len e i (by omega)
    have hl0 := below_l0 (L := L) e.length n i (e.take (n + 1)) e[i] hx.kids (cellsAt e i) hcs (fun k => (growAll (e.take i)).getD k.toNat .none) (by
      intro k hkm
      obtain ⟨k0, k1⟩ := hk i hi2 k hkm
      exact ⟨k0, by omega, cells_get e i k.toNat (by omega) (by omega)⟩)
    rw [encTree_eq] at hput
    unfold g168e
    unfold g168a g168b at hl0
    generalize e.take (n + 1) = E at *
    generalize cellsAt e (i + 1) = cs' at *
    generalize cellsAt e i = cs at *
    generalize e[i] = x at *
    have hdX := data_Alts x.alts
    have hKl : (x.kids.map fun k => (growAll (e.take i)).getD k.toNat .none).length = x.kids.length := by simp
    generalize (x.kids.map fun k => (growAll (e.take i)).getD k.toNat .none) = K at *
    have hdT := data_Trees K
    have hcl' : i + 1 ≤ cs.length := by omega
    simp only [List.take_zero, List.map_nil, ownAt_zero, tailAt_zero, List.append_nil, Int.natCast_zero] at hl0
    have b4 : ((i : Int) < e.length) := by omega
    rcases own_cases 3 1 x.kids.length with ⟨k1, k2⟩ | ⟨k1, k2⟩ <;> rw [k1, k2] at hl0 <;> simp only [List.length_cons, List.length_nil, Nat.add_zero, Nat.zero_add, Nat.reduceAdd, List.append_nil, List.cons_append, List.nil_append] at hl0 <;> unfold fn168_l1 <;>
        simp -implicitDefEqProofs only [code_skip, code_ops, code_seq, code_cond, code_block, ops_cons, ops_nil, aOp, opd, upd_at, upd_none, kt_cons, stepVal, stepHeap, aBin, aLen, aInt, aIndexList, isShift, aLoad1, aStore, readAt, aField, fillA, known, leaf, acells_agg, acells_int, acells_list, acells_vptr, cellsSet, code_loopF, gc_mk, gcIds_mk, newIds_nil, newIds_cons, gcMap_at, posOf, ren, renC, renO_box, idsV, idsC, idsO_box, wipeC_list, wipeC_int, isData_list_none, isData_list_full, isData_int, isData_ptr, isDataL_nil, isDataL_cons, Option.map_some, List.map_cons, List.map_nil, List.flatMap_cons, List.flatMap_nil, List.length_cons, List.length_nil, List.length_map, List.cons_append, List.nil_append, List.append_nil, List.append_assoc, List.getElem?_cons_zero, List.getElem?_cons_succ, List.set_cons_zero, List.set_cons_succ, List.take_succ_cons, List.take_zero, List.drop_succ_cons, List.drop_zero, List.take_nil, List.drop_nil, List.all_cons, List.all_nil, List.not_mem_nil, ↓reduceIte, Bool.and_true, Bool.false_eq_true, and_true, false_and, not_false_eq_true, decide_true, and_self, Nat.le_refl, reduceCtorEq, Nat.add_zero, Nat.zero_add, Nat.reduceEqDiff, Nat.reduceAdd, Nat.reduceLT, Nat.reduceLeDiff, Int.toNat_natCast, Int.natCast_nonneg, roundF_eq, kt_nil, code_freeze, freezeS_mk, frzAt_mk, frzT_at, frz, frzC, frzO, encExpr_eq, data_Ints, isData_vec, idsO_vec, renO_vec, Nat.mul_one, h1, h2, h3, hl0, hid, hre, hid', hre', hfz, hput, hdE, hdX, hdT, hcl', b4, doCall_p L hp, hp]
  · rw [hEl]
    have h0 := append_c (n + 1)
    have hid := ids_data (cells_data e (n + 1))
    have hre := fun ρ => ren_data ρ (cells_data e (n + 1))
    unfold g168e
    rw [hEl]
    generalize cellsAt e (n + 1) = cs at *
    generalize e.take (n + 1) = E at *
    unfold fn168_l1
    simp -implicitDefEqProofs only [code_ops, code_seq, code_cond, code_exit, ops_cons, ops_nil, aOp, opd, upd_at, kt_cons, stepVal, aBin, aInt, isShift, gcE, gc_mk, gcIds_mk, newIds_nil, newIds_cons, gcMap_at, posOf, ren, renC, idsV, idsC, isData_int, List.map_cons, List.map_nil, List.flatMap_cons, List.flatMap_nil, List.length_cons, List.length_nil, List.nil_append, List.append_nil, List.take_succ_cons, List.take_nil, List.not_mem_nil, ↓reduceIte, Bool.false_eq_true, and_true, not_false_eq_true, decide_false, Nat.le_refl, Nat.zero_add, Nat.reduceEqDiff, Nat.reduceLT, Nat.reduceLeDiff, roundF_eq, kt_nil, isData_vec, idsO_vec, renO_vec, h0, hid, hre, hdE]
theorem below_ok (h168 : L.fns 168 = some fn168) (e : List CExpr) (hl : e.length < 2 ^ 30) (hf : ∀ x ∈ e, NodeFit x) (hk : Ahead e) (n : Nat) (hn : n < e.length) (h : Heap) :
    pcall L 168 [.list (e.map encExpr) none, .int .i64 n] h = some (.val (encTree (treeAt e n)), h) := by
  have hdE := data_Exprs e
  have hdE2 := data_Exprs (e.take (n + 1))
  have hall := all_Exprs e
  refine pcall_fn hL h168 (data_Tree _) ?_ h
  have hl2 := below_l1 hL e hl hf hk n hn
  have h0 : cellsAt e 0 = List.replicate e.length (.ptr none) := rfl
  have hg := cells_get e (n + 1) n (by omega) (by omega)
  rw [growAll_take e (n + 1) n (by omega) (by omega)] at hg
  have hid := ids_data (cells_data e (n + 1))
  have hre := fun ρ => ren_data ρ (cells_data e (n + 1))
  have hid0 := ids_data (cells_data e 0)
  have hre0 := fun ρ => ren_data ρ (cells_data e 0)
  unfold g168e at hl2
  rw [h0] at hl2 hid0 hre0
  obtain ⟨tc, htc, hdt⟩ := enc_vptr (treeAt e n)
  rw [htc] at hg ⊢
  have w : IntKind.i64.wrap ((n : Int) + 1) = ((n + 1 : Nat) : Int) := by rw [wrap64 (by omega) (by omega)]; rfl
  have b : ((n : Int) < e.length) := by omega
  have b1 : ((0 : Int) ≤ ((n + 1 : Nat) : Int)) := by omega
  have b2 : (((n + 1 : Nat) : Int) ≤ (e.length : Int)) := by omega
  have hnn : ((e.length : Int) ≤ 1073741824) := by omega
  have ht : (e.map encExpr).take (n + 1) = (e.take (n + 1)).map encExpr := by rw [List.map_take]
  generalize cellsAt e (n + 1) = cs at *
  simp only [Int.natCast_zero] at hl2
  unfold fn168
  simp -implicitDefEqProofs only [code_ops, code_seq, code_ret, ops_cons, ops_nil, aOp, opd, upd_at, initTm_at, kt_cons, stepVal, aBin, aLen, aInt, aIndexList, isShift, aLoad1, endFn, aResults, aResult, tupled, code_loopF, gc_mk, gcIds_mk, newIds_nil, newIds_cons, gcMap_at, posOf, ren, renC, idsV, idsC, isData_list_none, isData_int, Option.map_some, Option.map_none, Option.getD_some, List.map_cons, List.map_nil, List.flatMap_cons, List.flatMap_nil, List.length_cons, List.length_nil, List.length_map, List.nil_append, List.append_nil, List.getElem?_cons_zero, List.getElem?_cons_succ, List.take_succ_cons, List.drop_zero, List.take_nil, List.not_mem_nil, ↓reduceIte, Bool.false_eq_true, and_true, not_false_eq_true, and_self, Nat.le_refl, reduceCtorEq, Nat.zero_add, Nat.reduceEqDiff, Nat.reduceLT, Nat.reduceLeDiff, Int.reduceToNat, Int.toNat_natCast, Int.natCast_nonneg, Int.cast_ofNat_Int, aSlice, intOr, outOf_val, isData_vec, idsO_vec, renO_vec, Nat.mul_one, Int.le_refl, hl2, hid, hre, hid0, hre0, hg, w, b, b1, b2, ht, hnn, hall, hdE, hdE2, wipeR_vptr]
/-! ### A node of a valid expression -/
def atErr (e : List CExpr) (n : Int) : Int := if checkErr e = 0 then (if n < 0 ∨ (e.length : Int) ≤ n then 12 else 0) else checkErr e
end
/-! ### Subtrees -/
theorem treeL_kd {e : List CExpr} (h : TreeL e) : ∀ p, ∀ j ∈ kidsOf e p, j < p := by
  intro p j hj
  unfold kidsOf at hj
  cases hq : e[p]? with
  | none => rw [hq] at hj; cases hj
  | some x =>
    rw [hq] at hj
    obtain ⟨k, hk, rfl⟩ := List.mem_map.1 hj
    obtain ⟨hp, rfl⟩ := List.getElem?_eq_some_iff.1 hq
    have := h.ahead p hp k hk
    omega
theorem subs_idx (e : List CExpr) (hk : Ahead e) : ∀ (i : Nat), i < e.length → ∃ X : List Nat, subs (treeAt e i) = X.map (treeAt e) ∧ X.Perm (i :: X.flatMap (kidsOf e)) ∧ ∀ x ∈ X, x ≤ i := by
  intro i
  induction i using Nat.strongRecOn with
  | ind i ih =>
    intro hi
    have key : ∀ ks : List Int, (∀ k ∈ ks, 0 ≤ k ∧ k < i) → ∃ Y : List Nat, subsL (ks.map fun k => treeAt e k.toNat) = Y.map (treeAt e) ∧ Y.Perm (ks.map Int.toNat ++ Y.flatMap (kidsOf e)) ∧ ∀ y ∈ Y, y < i := by
      intro ks
      induction ks with
      | nil => intro _; exact ⟨[], by rw [List.map_nil, subsL]; rfl, .refl _, by simp⟩
      | cons k ks ihk =>
        intro h
        obtain ⟨k0, k1⟩ := h k (by simp)
        obtain ⟨Y, y1, y2, y3⟩ := ihk fun x hx => h x (by simp [hx])
        obtain ⟨X, x1, x2, x3⟩ := ih k.toNat (by omega) (by omega)
        refine ⟨X ++ Y, by rw [List.map_cons, subsL, x1, y1, List.map_append], ?_, fun z hz => ?_⟩
        · rw [List.flatMap_append, List.map_cons, List.cons_append]
          refine (x2.append y2).trans ?_
          rw [List.cons_append]
          refine List.Perm.cons _ ?_
          rw [← List.append_assoc, ← List.append_assoc]
          exact List.perm_append_comm.append_right _
        · rcases List.mem_append.1 hz with hz | hz
          · have := x3 z hz; omega
          · exact y3 z hz
    obtain ⟨Y, y1, y2, y3⟩ := key e[i].kids (hk i hi)
    have hki : kidsOf e i = e[i].kids.map Int.toNat := by unfold kidsOf; rw [List.getElem?_eq_getElem hi]
    refine ⟨Y ++ [i], ?_, ?_, ?_⟩
    · rw [List.map_append, ← y1]
      have h1 := treeAt_eq e hk i hi
      show _ = _ ++ [treeAt e i]
      rw [h1, subs]
    · rw [List.flatMap_append, List.flatMap_cons, List.flatMap_nil, List.append_nil, hki]
      refine List.perm_append_comm.trans ?_
      rw [List.cons_append, List.nil_append]
      exact List.Perm.cons _ (y2.trans List.perm_append_comm)
    · intro x hx
      rcases List.mem_append.1 hx with hx | hx
      · have := y3 x hx; omega
      · have := List.mem_singleton.1 hx; omega
/-- The subtrees of a list's tree are those of its nodes. -/
theorem subs_perm (e : List CExpr) (h : TreeL e) : (subs (grow1 e)).Perm ((List.range e.length).map (treeAt e)) := by
  have hpos := h.pos
  obtain ⟨X, x1, x2, x3⟩ := subs_idx e h.ahead (e.length - 1) (by omega)
  have hperm : X.Perm (List.range e.length) := by
    rw [List.perm_iff_count]
    intro j
    by_cases hj : j < e.length
    · exact (closed_count (kidsOf e) (treeL_kd h) (e.length - 1) e.length X (List.range e.length) x2 (range_closed e h) (fun x hx => by have := x3 x hx; omega) (fun y hy => List.mem_range.1 hy) (e.length - j) j (by omega)).1
    · rw [List.count_eq_zero.2 (fun hm => by have := x3 j hm; omega), List.count_eq_zero.2 (fun hm => by have := List.mem_range.1 hm; omega)]
  rw [grow1_eq, x1]
  exact hperm.map _
theorem sub_at {e : List CExpr} (h : TreeL e) (n : Nat) (hn : n < e.length) : treeAt e n ∈ subs (grow1 e) :=
  (subs_perm e h).mem_iff.2 (List.mem_map_of_mem (List.mem_range.2 hn))
mutual
theorem sub_size : ∀ (t s : CTree), s ∈ subs t → tsize s ≤ tsize t ∧ hgt s ≤ hgt t ∧ (nodesT s).Sublist (nodesT t)
  | .mk op n binds kids alts, s, h => by
    rw [subs] at h
    rcases List.mem_append.1 h with h | h
    · obtain ⟨a, b, c⟩ := subs_size kids s h
      refine ⟨by rw [tsize]; omega, by rw [hgt]; omega, ?_⟩
      rw [nodesT]
      exact c.trans (List.sublist_append_left _ _)
    · rw [List.mem_singleton.1 h]
      exact ⟨Nat.le_refl _, Nat.le_refl _, List.Sublist.refl _⟩
theorem subs_size : ∀ (ks : List CTree) (s : CTree), s ∈ subsL ks → tsize s ≤ tsizes ks ∧ hgt s ≤ hgts ks ∧ (nodesT s).Sublist (nodesTs ks)
  | [], s, h => by rw [subsL] at h; cases h
  | k :: ks, s, h => by
    rw [subsL] at h
    rw [tsizes, hgts, nodesTs]
    rcases List.mem_append.1 h with h | h
    · obtain ⟨a, b, c⟩ := sub_size k s h
      exact ⟨by omega, by omega, c.trans (List.sublist_append_left _ _)⟩
    · obtain ⟨a, b, c⟩ := subs_size ks s h
      exact ⟨by omega, by omega, c.trans (List.sublist_append_right _ _)⟩
end
/-! ### The check of a tree -/
theorem sublist_flat {α β : Type} (f : α → List β) {l m : List α} (h : l.Sublist m) : (l.flatMap f).Sublist (m.flatMap f) := by
  induction h with
  | slnil => exact List.Sublist.refl _
  | cons a _ ih => rw [List.flatMap_cons]; exact ih.trans (List.sublist_append_right _ _)
  | cons_cons a _ ih => rw [List.flatMap_cons, List.flatMap_cons]; exact (List.Sublist.refl _).append ih
def labBinds (l : Lab) : List Int := bindersOf l.op l.binds l.alts
structure TOk (t : CTree) : Prop where
  size : tsize t ≤ 4096
  deep : hgt t ≤ 400
  lab : ∀ l ∈ nodesT t, labErr false l = 0
  once : ((nodesT t).flatMap labBinds).Nodup
theorem tok_sub {t s : CTree} (h : TOk t) (hs : s ∈ subs t) : TOk s := by
  obtain ⟨a, b, c⟩ := sub_size t s hs
  exact ⟨by have := h.size; omega, by have := h.deep; omega, fun l hl => h.lab l (c.subset hl), h.once.sublist (sublist_flat _ c)⟩
theorem binders_lab (e l : List CExpr) : l.flatMap bindersX = (l.map (labX e)).flatMap labBinds := by
  rw [List.flatMap_map]
  rfl
theorem tok_of {e : List CExpr} (h : checkErr e = 0) : TOk (grow1 e) := by
  obtain ⟨a, b, c, d, f, g⟩ := check_tree h
  have hp := nodes_perm e a
  refine ⟨by rw [tsize_grow e a]; exact b, c, fun l hl => ?_, ?_⟩
  · obtain ⟨x, hx, rfl⟩ := List.mem_map.1 (hp.mem_iff.1 hl)
    exact d x hx
  · rw [binders_lab e] at f
    exact ((hp.flatMap_right _).nodup_iff).2 f
/-- What of a node. -/
theorem tfit_node {e : List CExpr} (hz : checkErr e = 0) (hf : ∀ x ∈ e, NodeFit x) (n : Nat) (hn : n < e.length) : TFit (treeAt e n) := by
  obtain ⟨hT, hn2, hh, hlab, _⟩ := check_tree hz
  exact tfit_at e hT.ahead hf (lab_bfit hT hn2 hlab) n hn
section
variable {L : Lib} (hC : CLib2 L)
include hC
theorem at_ok (h166 : L.fns 166 = some fn166) (e : List CExpr) (hl : e.length < 2 ^ 30) (hf : ∀ x ∈ e, NodeFit x) (n : Int) (h : Heap) :
    pcall L 166 [.list (e.map encExpr) none, .int .i64 n] h = some (.val (.int .i64 (atErr e n)), h) := by
  have hL := hC.plain
  have hp := hL.pure
  have hdE := data_Exprs e
  have hck := check_ok hC.toCLib e hl hf
  refine pcall_fn hL h166 rfl ?_ h
  unfold atErr
  by_cases hz : checkErr e = 0
  · rw [if_pos hz]
    rw [hz] at hck
    by_cases h1 : n < 0
    · rw [if_pos (.inl h1)]
      unfold fn166
      simp -implicitDefEqProofs only [code_skip, code_ops, code_seq, code_cond, code_ret, ops_cons, ops_cons_g, ops_nil, aOp, opd, upd_at, initTm_at, stepVal, aBin, aInt, isShift, aWanted, endFn, aResults, aResult, tupled, wipe_list, wipeR_int, isData_list_none, isDataL_nil, isDataL_cons, beqTF, Option.getD_some, List.map_cons, List.map_nil, List.getElem?_cons_zero, List.getElem?_cons_succ, ↓reduceIte, Bool.and_true, Bool.false_eq_true, decide_true, and_self, reduceCtorEq, Nat.reduceEqDiff, Int.reduceBNe, onlyVal, outOf_val, hck, hdE, h1, doCall_p L hp, hp]
    · by_cases h2 : (e.length : Int) ≤ n
      · rw [if_pos (.inr h2)]
        unfold fn166
        simp -implicitDefEqProofs only [code_skip, code_ops, code_seq, code_cond, code_ret, ops_cons, ops_cons_g, ops_nil, aOp, opd, upd_at, initTm_at, stepVal, aBin, aLen, aInt, isShift, aWanted, endFn, aResults, aResult, tupled, wipe_list, wipeR_int, isData_list_none, isDataL_nil, isDataL_cons, beq_self_eq_true, Option.getD_some, List.map_cons, List.map_nil, List.length_map, List.getElem?_cons_zero, List.getElem?_cons_succ, ↓reduceIte, Bool.and_true, Bool.false_eq_true, decide_true, decide_false, and_self, reduceCtorEq, Nat.reduceEqDiff, Int.reduceBNe, ge_iff_le, onlyVal, outOf_val, hck, hdE, h1, h2, doCall_p L hp, hp]
      · rw [if_neg (by omega)]
        unfold fn166
        simp -implicitDefEqProofs only [code_skip, code_ops, code_seq, code_cond, code_ret, ops_cons, ops_cons_g, ops_nil, aOp, opd, upd_at, initTm_at, stepVal, aBin, aLen, aInt, isShift, aWanted, endFn, aResults, aResult, tupled, wipe_list, wipeR_int, isData_list_none, isDataL_nil, isDataL_cons, beq_self_eq_true, Option.getD_some, List.map_cons, List.map_nil, List.length_map, List.getElem?_cons_zero, List.getElem?_cons_succ, ↓reduceIte, Bool.and_true, Bool.false_eq_true, decide_false, and_self, reduceCtorEq, Nat.reduceEqDiff, Int.reduceBNe, ge_iff_le, onlyVal, outOf_val, hck, hdE, h1, h2, doCall_p L hp, hp]
  · rw [if_neg hz]
    have hb : (checkErr e != 0) = true := by simpa using hz
    unfold fn166
    simp -implicitDefEqProofs only [code_ops, code_seq, code_cond, code_ret, ops_cons, ops_nil, aOp, opd, upd_at, initTm_at, stepVal, aBin, aInt, isShift, endFn, aResults, aResult, tupled, wipe_list, wipeR_int, isData_list_none, isDataL_nil, isDataL_cons, Option.getD_some, List.map_cons, List.map_nil, List.getElem?_cons_zero, ↓reduceIte, Bool.and_true, Bool.false_eq_true, and_self, reduceCtorEq, Nat.reduceEqDiff, onlyVal, outOf_val, hck, hdE, hb, doCall_p L hp, hp]
end
end Go.Abs
