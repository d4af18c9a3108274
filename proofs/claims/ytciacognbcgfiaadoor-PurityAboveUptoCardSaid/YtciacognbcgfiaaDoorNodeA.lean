/-
  Trees that are being built, and the walk that lists them. Conditions: none.
-/
import Derived.Test.YtciacognbcgfiaaDoorCoreV
set_option linter.unusedVariables false
set_option linter.unusedSimpArgs false
set_option maxRecDepth 100000
set_option maxHeartbeats 4000000
namespace Go.Abs
/-- A node that is being built; the numbers of kids that it carries along are not looked at. -/
inductive CNode where
  | mk (op n : Int) (binds xk : List Int) (kids : List CNode) (alts : List CAlt)
def encNode : CNode → AVal
  | .mk op n binds xk kids alts => .vptr [.int .i64 op, .int .i64 n, .list (binds.map encI) none, .list (xk.map encI) none, .list (alts.map encAlt) none, .list (kids.attach.map fun k => encNode k.1) none] 0
  termination_by t => SizeOf.sizeOf t
  decreasing_by
    have := List.sizeOf_lt_of_mem k.2
    simp only [CNode.mk.sizeOf_spec]
    omega
def toTree : CNode → CTree
  | .mk op n binds xk kids alts => .mk op n binds (kids.attach.map fun k => toTree k.1) alts
  termination_by t => SizeOf.sizeOf t
  decreasing_by
    have := List.sizeOf_lt_of_mem k.2
    simp only [CNode.mk.sizeOf_spec]
    omega
theorem encNode_eq (op n : Int) (binds xk : List Int) (kids : List CNode) (alts : List CAlt) : encNode (.mk op n binds xk kids alts) = .vptr [.int .i64 op, .int .i64 n, .list (binds.map encI) none, .list (xk.map encI) none, .list (alts.map encAlt) none, .list (kids.map encNode) none] 0 := by
  rw [encNode]
  simp
theorem toTree_eq (op n : Int) (binds xk : List Int) (kids : List CNode) (alts : List CAlt) : toTree (.mk op n binds xk kids alts) = .mk op n binds (kids.map toTree) alts := by
  rw [toTree]
  simp
theorem CNode.ind {P : CNode → Prop} (h : ∀ op n binds xk kids alts, (∀ k ∈ kids, P k) → P (.mk op n binds xk kids alts)) : ∀ t, P t
  | .mk op n binds xk kids alts => h op n binds xk kids alts fun k hk => CNode.ind h k
  termination_by t => SizeOf.sizeOf t
  decreasing_by
    have := List.sizeOf_lt_of_mem hk
    simp only [CNode.mk.sizeOf_spec]
    omega
theorem data_Node (t : CNode) : isData (encNode t) = true := by
  induction t using CNode.ind with
  | h op n binds xk kids alts ih =>
    rw [encNode_eq]
    have : isDataL (kids.map encNode) = true := by
      clear op n binds xk alts
      induction kids with
      | nil => rfl
      | cons k ks ih' => rw [List.map_cons, isDataL, ih k (by simp), ih' fun x hx => ih x (by simp [hx])]; rfl
    simp only [isData, isDataL, data_Ints, data_Alts, this, Bool.and_self]
theorem data_Nodes (l : List CNode) : isDataL (l.map encNode) = true := isDataL_map _ data_Node l
theorem encN_vptr (t : CNode) : ∃ tc, encNode t = .vptr tc 0 ∧ isDataL tc = true := by
  have h := data_Node t
  cases t
  rw [encNode_eq] at h ⊢
  exact ⟨_, rfl, h⟩
/-- The list that is being made. -/
def mh (outs : List CExpr) : Heap := [.box [.list (outs.map encExpr) (ownAt 1 outs.length)]] ++ tailAt 5 outs.length
theorem mh_nil : mh [] = [.box [.list [] (some none)]] := rfl
theorem mh_pos {outs : List CExpr} (h : 0 < outs.length) : mh outs = [.box [.list (outs.map encExpr) (some (some 1))], .tail outs.length 5] := by
  unfold mh
  rw [ownAt_pos h, tailAt_pos h]
  rfl
def NodeOk (L : Lib) (t : CNode) : Prop := ∀ outs : List CExpr, outs.length + tsize (toTree t) < 2 ^ 30 → call L 183 [encNode t, .ptr (some (0, 0))] (mh outs) = some (.val (.int .i64 ((outs.length + tsize (toTree t) - 1 : Nat) : Int)), mh (outs ++ listT (toTree t) outs.length))
def nA (op n : Int) (binds : List Int) (kids : List CNode) (alts : List CAlt) (outs : List CExpr) (ids : List Int) (j : Nat) : St :=
  ⟨kt [1, 5, 16, 17, 18] [.ptr (some (0, 0)), .ptr (some (2, 0)), .list (kids.map encNode) none, .int .i64 kids.length, .int .i64 j],
    [.box [.list (outs.map encExpr) (some (some 1))], .tail outs.length 5, .box [.int .i64 op, .int .i64 n, .list (binds.map encI) none, .list (ids.map encI) (ownAt 3 j), .list (alts.map encAlt) none]] ++ tailAt 1 j⟩
def nA' (op n : Int) (binds : List Int) (alts : List CAlt) (outs : List CExpr) (ids : List Int) (j : Nat) : St :=
  ⟨kt [1, 5] [.ptr (some (0, 0)), .ptr (some (2, 0))],
    [.box [.list (outs.map encExpr) (some (some 1))], .tail outs.length 5, .box [.int .i64 op, .int .i64 n, .list (binds.map encI) none, .list (ids.map encI) (ownAt 3 j), .list (alts.map encAlt) none]] ++ tailAt 1 j⟩
section
variable {L : Lib} (hL : Plain L)
include hL
theorem node_l0A (op n : Int) (binds : List Int) (kids : List CNode) (alts : List CAlt) (outs : List CExpr) (h0 : 0 < outs.length) (hsz : outs.length + tsizes (kids.map toTree) < 2 ^ 30) (hkl : kids.length < 2 ^ 30) (ih : ∀ k ∈ kids, NodeOk L k) :
    loopF L.pure (call L) 3 [1, 5, 16, 17, 18] [1, 5] 0 fn183_l0 (nA op n binds kids alts outs [] 0) = some (.normal, nA' op n binds alts (outs ++ listTs (kids.map toTree) outs.length) (rootsTs (kids.map toTree) outs.length) kids.length) := by
  have hp := hL.pure
  have hdT := data_Nodes kids
  have hdX := data_Alts alts
  have hC := loopF_count (pure := L.pure) (call := call L) (b := 3) (keep := [1, 5, 16, 17, 18]) (fk := [1, 5]) (id := 0) (body := fn183_l0)
    (fun j => nA op n binds kids alts (outs ++ listTs ((kids.map toTree).take j) outs.length) (rootsTs ((kids.map toTree).take j) outs.length) j) kids.length (T := nA' op n binds alts (outs ++ listTs (kids.map toTree) outs.length) (rootsTs (kids.map toTree) outs.length) kids.length) ?_ ?_
  · have e0 : listTs ((kids.map toTree).take 0) outs.length = [] := by rw [List.take_zero, listTs]
    have e1 : rootsTs ((kids.map toTree).take 0) outs.length = [] := by rw [List.take_zero, rootsTs]
    simp only [e0, e1, List.append_nil] at hC
    exact hC
  · intro j hj
    obtain ⟨h1, h2, h3⟩ := round_c encNode kids hkl j hj
    have hw := ih kids[j] (List.getElem_mem hj) (outs ++ listTs ((kids.map toTree).take j) outs.length)
    have hlen : (outs ++ listTs ((kids.map toTree).take j) outs.length).length = outs.length + tsizes ((kids.map toTree).take j) := by rw [List.length_append, list_lens]
    have hj2 : j < (kids.map toTree).length := by simpa using hj
    have hle := tsizes_le (kids.map toTree) (j + 1)
    rw [tsizes_take (kids.map toTree) j hj2, List.getElem_map] at hle
    have hrl : (rootsTs ((kids.map toTree).take j) outs.length).length = j := by rw [rootsTs_len]; simp; omega
    have hjj : j + 1 ≤ 1073741824 := by omega
    rw [List.take_succ_eq_append_getElem hj2, List.getElem_map, listTs_snoc, rootsTs_snoc, ← List.append_assoc, ← hlen]
    have hw := hw (by rw [hlen]; omega)
    have hpos : 0 < (outs ++ listTs ((kids.map toTree).take j) outs.length).length := by rw [hlen]; omega
    generalize outs ++ listTs ((kids.map toTree).take j) outs.length = ou at *
    generalize rootsTs ((kids.map toTree).take j) outs.length = ids at *
    generalize kids[j] = kid at *
    have hpos2 : 0 < (ou ++ listT (toTree kid) ou.length).length := by rw [List.length_append]; omega
    rw [mh_pos hpos, mh_pos hpos2] at hw
    have hdO := data_Exprs ou
    generalize ou ++ listT (toTree kid) ou.length = ou2 at *
    have hdO2 := data_Exprs ou2
    have hall := all_Ints ids
    have hdI := data_Ints ids
    obtain ⟨tc, htc, hdt⟩ := encN_vptr kid
    rw [htc] at hw
    rcases Nat.eq_zero_or_pos j with hz | hz
    · have : ids = [] := List.length_eq_zero_iff.1 (by omega)
      subst this
      have o1 : ownAt 3 j = some none := by rw [hz]; rfl
      have o2 : tailAt 1 j = [] := by rw [hz]; rfl
      have o3 : j + 1 = 1 := by omega
      unfold fn183_l0 nA
      simp -implicitDefEqProofs only [code_skip, code_ops, code_draw, code_seq, code_cond, code_block, ops_cons, ops_nil, aOp, opd, upd_at, upd_none, kt_cons, stepVal, stepHeap, aBin, aInt, aIndexList, isShift, aWanted, aLoad1, aStore, aField, leaf, acells_int, acells_list, acells_vptr, cellsSet, gc_mk, isTrim_cons, gcIds_mk, newIds_nil, newIds_cons, gcMap_at, posOf, ren, renC, renO_box, renO_tail, idsV, idsC, idsO_box, idsO_tail, draw_eq, opsH_nil, opsH_cons, isLoud, aAppend, wipe_int, wipe_ptr, wipe_vptr, isData_list_none, isData_list_tail, isData_int, isData_vptr, isData_ptr, isDataL_nil, isDataL_cons, Option.getD_some, List.map_cons, List.map_nil, List.flatMap_cons, List.flatMap_nil, List.length_cons, List.length_nil, List.cons_append, List.nil_append, List.append_nil, List.getElem?_cons_zero, List.getElem?_cons_succ, List.set_cons_zero, List.set_cons_succ, List.take_succ_cons, List.take_zero, List.drop_succ_cons, List.drop_zero, List.take_nil, List.all_cons, List.all_nil, List.mem_cons, List.not_mem_nil, ↓reduceIte, Bool.and_true, Bool.and_false, Bool.false_eq_true, and_true, and_false, or_true, or_false, not_true_eq_false, not_false_eq_true, decide_true, decide_false, and_self, Nat.le_refl, Nat.zero_le, reduceCtorEq, Nat.zero_add, Nat.reduceEqDiff, Nat.reduceAdd, Nat.reduceSub, Nat.reduceLT, Nat.reduceLeDiff, Int.toNat_natCast, Int.natCast_nonneg, List.cons_ne_nil, roundF_eq, maxLen_eq, checksP_cons, checksP_nil, checkP_eq, drawTo_if, forall_const, forall_eq_or_imp, forall_eq, kt_nil, Int.cast_ofNat_Int, rCall_eq, rootsOf_eq, grow_eq, subHeap_eq, newOf_val, backRen_at, putBack_eq, pb_nil, pb_cons, backRes_val, ownAt_succ, tailAt_succ, encI_eq, data_Ints, h1, h2, h3, hw, hdT, hdX, hdO, hdO2, htc, hdt, o1, o2, o3, doCall_p L hp, hp]
    · have o1 := ownAt_pos (b := 3) hz
      have o2 := tailAt_pos (sz := 1) hz
      unfold fn183_l0 nA
      simp -implicitDefEqProofs only [code_skip, code_ops, code_draw, code_seq, code_cond, code_block, ops_cons, ops_nil, aOp, opd, upd_at, upd_none, kt_cons, stepVal, stepHeap, aBin, aInt, aIndexList, isShift, aWanted, aLoad1, aStore, aField, leaf, acells_int, acells_list, acells_vptr, cellsSet, gc_mk, isTrim_cons, gcIds_mk, newIds_nil, newIds_cons, gcMap_at, posOf, ren, renC, renO_box, renO_tail, idsV, idsC, idsO_box, idsO_tail, draw_eq, opsH_nil, opsH_cons, isLoud, aAppend, wipe_int, wipe_ptr, wipe_vptr, isData_list_none, isData_list_tail, isData_int, isData_vptr, isData_ptr, isDataL_nil, isDataL_cons, isDataL_append, Option.getD_some, List.map_cons, List.map_nil, List.flatMap_cons, List.flatMap_nil, List.length_cons, List.length_nil, List.length_map, List.cons_append, List.nil_append, List.append_nil, List.getElem?_cons_zero, List.getElem?_cons_succ, List.set_cons_zero, List.set_cons_succ, List.take_succ_cons, List.take_zero, List.drop_succ_cons, List.drop_zero, List.take_nil, List.all_cons, List.all_nil, List.mem_cons, List.not_mem_nil, ↓reduceIte, Bool.and_true, Bool.and_false, Bool.false_eq_true, and_true, and_false, or_true, or_false, not_true_eq_false, not_false_eq_true, decide_true, decide_false, and_self, Nat.le_refl, Nat.zero_le, reduceCtorEq, Nat.zero_add, Nat.reduceEqDiff, Nat.reduceAdd, Nat.reduceSub, Nat.reduceLT, Nat.reduceLeDiff, Int.toNat_natCast, Int.natCast_nonneg, List.cons_ne_nil, roundF_eq, maxLen_eq, checksP_cons, checksP_nil, checkP_eq, drawTo_if, forall_const, forall_eq_or_imp, forall_eq, List.map_append, kt_nil, rCall_eq, rootsOf_eq, grow_eq, subHeap_eq, newOf_val, backRen_at, putBack_eq, pb_nil, pb_cons, backRes_val, ownAt_succ, tailAt_succ, encI_eq, data_Ints, h1, h2, h3, hw, hdT, hdX, hdO, hdO2, htc, hdt, hall, hdI, hrl, hjj, o1, o2, doCall_p L hp, hp]
  · have h0' := append_c kids.length
    have ht : (kids.map toTree).take kids.length = kids.map toTree := List.take_of_length_le (by simp)
    rw [ht]
    generalize outs ++ listTs (kids.map toTree) outs.length = ou
    have hdO := data_Exprs ou
    have hdI := data_Ints (rootsTs (kids.map toTree) outs.length)
    generalize rootsTs (kids.map toTree) outs.length = ids at *
    unfold fn183_l0 nA nA'
    rcases own_cases 3 1 kids.length with ⟨o1, o2⟩ | ⟨o1, o2⟩ <;> simp -implicitDefEqProofs only [code_ops, code_seq, code_cond, code_exit, ops_cons, ops_nil, aOp, opd, upd_at, kt_cons, stepVal, aBin, aInt, isShift, gcE, gc_mk, isTrim_cons, gcIds_mk, newIds_nil, newIds_cons, gcMap_at, posOf, ren, renC, renO_box, renO_tail, idsV, idsC, idsO_box, idsO_tail, isData_list_none, isData_list_full, isData_list_tail, isData_int, isData_ptr, Option.getD_some, List.map_cons, List.map_nil, List.flatMap_cons, List.flatMap_nil, List.length_cons, List.length_nil, List.cons_append, List.nil_append, List.append_nil, List.getElem?_cons_zero, List.getElem?_cons_succ, List.take_succ_cons, List.take_zero, List.take_nil, List.not_mem_nil, ↓reduceIte, Bool.false_eq_true, and_true, not_false_eq_true, decide_false, and_self, Nat.le_refl, Nat.zero_add, Nat.reduceEqDiff, Nat.reduceAdd, Nat.reduceLT, Nat.reduceLeDiff, roundF_eq, kt_nil, data_Ints, h0', hdT, hdX, hdO, hdI, o1, o2]
/-- The heap where the list was empty: as soon as a kid is laid, both lists have room. -/
def nHB (op n : Int) (binds : List Int) (alts : List CAlt) (outs : List CExpr) (ids : List Int) (j : Nat) : Heap :=
  if j = 0 then [.box [.list [] (some none)], .box [.int .i64 op, .int .i64 n, .list (binds.map encI) none, .list [] (some none), .list (alts.map encAlt) none]]
  else [.box [.list (outs.map encExpr) (some (some 2))], .box [.int .i64 op, .int .i64 n, .list (binds.map encI) none, .list (ids.map encI) (some (some 3)), .list (alts.map encAlt) none], .tail outs.length 5, .tail j 1]
def nB (op n : Int) (binds : List Int) (kids : List CNode) (alts : List CAlt) (outs : List CExpr) (ids : List Int) (j : Nat) : St :=
  ⟨kt [1, 5, 16, 17, 18] [.ptr (some (0, 0)), .ptr (some (1, 0)), .list (kids.map encNode) none, .int .i64 kids.length, .int .i64 j], nHB op n binds alts outs ids j⟩
def nB' (op n : Int) (binds : List Int) (alts : List CAlt) (outs : List CExpr) (ids : List Int) (j : Nat) : St :=
  ⟨kt [1, 5] [.ptr (some (0, 0)), .ptr (some (1, 0))], nHB op n binds alts outs ids j⟩
theorem node_l0B (op n : Int) (binds : List Int) (kids : List CNode) (alts : List CAlt) (hsz : tsizes (kids.map toTree) < 2 ^ 30) (hkl : kids.length < 2 ^ 30) (ih : ∀ k ∈ kids, NodeOk L k) :
    loopF L.pure (call L) 2 [1, 5, 16, 17, 18] [1, 5] 0 fn183_l0 (nB op n binds kids alts [] [] 0) = some (.normal, nB' op n binds alts (listTs (kids.map toTree) 0) (rootsTs (kids.map toTree) 0) kids.length) := by
  have hp := hL.pure
  have hdT := data_Nodes kids
  have hdX := data_Alts alts
  have hC := loopF_count (pure := L.pure) (call := call L) (b := 2) (keep := [1, 5, 16, 17, 18]) (fk := [1, 5]) (id := 0) (body := fn183_l0)
    (fun j => nB op n binds kids alts (listTs ((kids.map toTree).take j) 0) (rootsTs ((kids.map toTree).take j) 0) j) kids.length (T := nB' op n binds alts (listTs (kids.map toTree) 0) (rootsTs (kids.map toTree) 0) kids.length) ?_ ?_
  · have e0 : listTs ((kids.map toTree).take 0) 0 = [] := by rw [List.take_zero, listTs]
    have e1 : rootsTs ((kids.map toTree).take 0) 0 = [] := by rw [List.take_zero, rootsTs]
    simp only [e0, e1] at hC
    exact hC
  · intro j hj
    obtain ⟨h1, h2, h3⟩ := round_c encNode kids hkl j hj
    have hw := ih kids[j] (List.getElem_mem hj) (listTs ((kids.map toTree).take j) 0)
    have hlen : (listTs ((kids.map toTree).take j) 0).length = 0 + tsizes ((kids.map toTree).take j) := by rw [list_lens]; omega
    have hj2 : j < (kids.map toTree).length := by simpa using hj
    have hle := tsizes_le (kids.map toTree) (j + 1)
    rw [tsizes_take (kids.map toTree) j hj2, List.getElem_map] at hle
    have hrl : (rootsTs ((kids.map toTree).take j) 0).length = j := by rw [rootsTs_len]; simp; omega
    have hjj : j + 1 ≤ 1073741824 := by omega
    rw [List.take_succ_eq_append_getElem hj2, List.getElem_map, listTs_snoc, rootsTs_snoc, ← hlen]
    have hw := hw (by rw [hlen]; omega)
    have hkp : 0 < tsize (toTree kids[j]) := tsize_pos _
    have hz0 : j = 0 → listTs ((kids.map toTree).take j) 0 = [] := by intro h; rw [h, List.take_zero, listTs]
    have hzp : 0 < j → 0 < (listTs ((kids.map toTree).take j) 0).length := by
      intro h
      rw [hlen]
      cases kids with
      | nil => simp at hj
      | cons x xs =>
        cases j with
        | zero => omega
        | succ j => rw [List.map_cons, List.take_succ_cons, tsizes]; have := tsize_pos (toTree x); omega
    have hll : (listT (toTree kids[j]) (listTs ((kids.map toTree).take j) 0).length).length = tsize (toTree kids[j]) := list_len _ _
    generalize listTs ((kids.map toTree).take j) 0 = ou at *
    generalize rootsTs ((kids.map toTree).take j) 0 = ids at *
    generalize kids[j] = kid at *
    have hpos2 : 0 < (ou ++ listT (toTree kid) ou.length).length := by rw [List.length_append]; omega
    rw [mh_pos hpos2] at hw
    have hdO := data_Exprs ou
    have hall := all_Ints ids
    have hdI := data_Ints ids
    obtain ⟨tc, htc, hdt⟩ := encN_vptr kid
    rw [htc] at hw
    have e3 : ∀ a b, nHB op n binds alts a b (j + 1) = [.box [.list (a.map encExpr) (some (some 2))], .box [.int .i64 op, .int .i64 n, .list (binds.map encI) none, .list (b.map encI) (some (some 3)), .list (alts.map encAlt) none], .tail a.length 5, .tail (j + 1) 1] := fun a b => if_neg (by omega)
    rcases Nat.eq_zero_or_pos j with hz | hz
    · have : ids = [] := List.length_eq_zero_iff.1 (by omega)
      subst this
      have := hz0 hz
      subst this
      rw [mh_nil] at hw
      have o3 : j + 1 = 1 := by omega
      have e4 : nHB op n binds alts [] [] j = [.box [.list [] (some none)], .box [.int .i64 op, .int .i64 n, .list (binds.map encI) none, .list [] (some none), .list (alts.map encAlt) none]] := if_pos hz
      generalize [] ++ listT (toTree kid) ([] : List CExpr).length = ou2 at *
      have hdO2 := data_Exprs ou2
      unfold fn183_l0 nB
      rw [e3, e4]
      simp -implicitDefEqProofs only [code_skip, code_ops, code_draw, code_seq, code_cond, code_block, ops_cons, ops_nil, aOp, opd, upd_at, upd_none, kt_cons, stepVal, stepHeap, aBin, aInt, aIndexList, isShift, aWanted, aLoad1, aStore, aField, leaf, acells_int, acells_list, acells_vptr, cellsSet, gc_mk, isTrim_cons, gcIds_mk, newIds_nil, newIds_cons, gcMap_at, posOf, ren, renC, renO_box, renO_tail, idsV, idsC, idsO_box, draw_eq, opsH_nil, opsH_cons, isLoud, aAppend, wipe_int, wipe_ptr, wipe_vptr, isData_list_none, isData_list_full, isData_list_tail, isData_int, isData_vptr, isData_ptr, isDataL_nil, isDataL_cons, Option.map_some, Option.getD_some, List.map_cons, List.map_nil, List.flatMap_cons, List.flatMap_nil, List.length_cons, List.length_nil, List.cons_append, List.nil_append, List.append_nil, List.getElem?_cons_zero, List.getElem?_cons_succ, List.set_cons_zero, List.set_cons_succ, List.take_succ_cons, List.take_zero, List.drop_succ_cons, List.drop_zero, List.all_cons, List.all_nil, List.mem_cons, List.not_mem_nil, ↓reduceIte, Bool.and_true, Bool.and_false, Bool.false_eq_true, and_true, or_false, not_false_eq_true, decide_true, decide_false, and_self, Nat.le_refl, reduceCtorEq, Nat.add_zero, Nat.zero_add, Nat.reduceEqDiff, Nat.reduceAdd, Nat.reduceSub, Nat.reduceLT, Nat.reduceLeDiff, Int.toNat_natCast, Int.natCast_nonneg, List.cons_ne_nil, roundF_eq, maxLen_eq, checksP_cons, checksP_nil, checkP_eq, drawTo_if, forall_const, forall_eq_or_imp, forall_eq, kt_nil, Int.cast_ofNat_Int, rCall_eq, rootsOf_eq, grow_eq, subHeap_eq, newOf_val, backRen_at, putBack_eq, pb_nil, pb_cons, backRes_val, encI_eq, data_Ints, h1, h2, h3, hw, hdT, hdX, hdO2, htc, hdt, o3, doCall_p L hp, hp]
    · rw [mh_pos (hzp hz)] at hw
      have e4 : nHB op n binds alts ou ids j = [.box [.list (ou.map encExpr) (some (some 2))], .box [.int .i64 op, .int .i64 n, .list (binds.map encI) none, .list (ids.map encI) (some (some 3)), .list (alts.map encAlt) none], .tail ou.length 5, .tail j 1] := if_neg (by omega)
      generalize ou ++ listT (toTree kid) ou.length = ou2 at *
      have hdO2 := data_Exprs ou2
      unfold fn183_l0 nB
      rw [e3, e4]
      simp -implicitDefEqProofs only [code_skip, code_ops, code_draw, code_seq, code_cond, code_block, ops_cons, ops_nil, aOp, opd, upd_at, upd_none, kt_cons, stepVal, stepHeap, aBin, aInt, aIndexList, isShift, aWanted, aLoad1, aStore, aField, leaf, acells_int, acells_list, acells_vptr, cellsSet, gc_mk, isTrim_cons, gcIds_mk, newIds_nil, newIds_cons, gcMap_at, posOf, ren, renC, renO_box, renO_tail, idsV, idsC, idsO_box, idsO_tail, draw_eq, opsH_nil, opsH_cons, isLoud, aAppend, wipe_int, wipe_ptr, wipe_vptr, isData_list_none, isData_list_tail, isData_int, isData_vptr, isData_ptr, isDataL_nil, isDataL_cons, isDataL_append, Option.getD_some, List.map_cons, List.map_nil, List.flatMap_cons, List.flatMap_nil, List.length_cons, List.length_nil, List.length_map, List.cons_append, List.nil_append, List.append_nil, List.getElem?_cons_zero, List.getElem?_cons_succ, List.set_cons_zero, List.set_cons_succ, List.take_succ_cons, List.take_zero, List.drop_succ_cons, List.drop_zero, List.take_nil, List.all_cons, List.all_nil, List.mem_cons, List.not_mem_nil, ↓reduceIte, Bool.and_true, Bool.and_false, Bool.false_eq_true, and_true, and_false, or_true, or_false, not_true_eq_false, not_false_eq_true, decide_true, decide_false, and_self, Nat.le_refl, Nat.zero_le, reduceCtorEq, Nat.zero_add, Nat.reduceEqDiff, Nat.reduceAdd, Nat.reduceSub, Nat.reduceLT, Nat.reduceLeDiff, Int.toNat_natCast, Int.natCast_nonneg, List.cons_ne_nil, roundF_eq, maxLen_eq, checksP_cons, checksP_nil, checkP_eq, drawTo_if, forall_const, forall_eq_or_imp, forall_eq, List.map_append, kt_nil, rCall_eq, rootsOf_eq, grow_eq, subHeap_eq, newOf_val, backRen_at, putBack_eq, pb_nil, pb_cons, backRes_val, encI_eq, data_Ints, h1, h2, h3, hw, hdT, hdX, hdO, hdO2, htc, hdt, hall, hdI, hrl, hjj, doCall_p L hp, hp]
  · have h0' := append_c kids.length
    have ht : (kids.map toTree).take kids.length = kids.map toTree := List.take_of_length_le (by simp)
    rw [ht]
    have hdO := data_Exprs (listTs (kids.map toTree) 0)
    have hdI := data_Ints (rootsTs (kids.map toTree) 0)
    generalize listTs (kids.map toTree) 0 = ou at *
    generalize rootsTs (kids.map toTree) 0 = ids at *
    unfold fn183_l0 nB nB' nHB
    by_cases hz : kids.length = 0
    · rw [if_pos hz]
      simp -implicitDefEqProofs only [code_ops, code_seq, code_cond, code_exit, ops_cons, ops_nil, aOp, opd, upd_at, kt_cons, stepVal, aBin, aInt, isShift, gcE, gc_mk, isTrim_cons, gcIds_mk, newIds_nil, newIds_cons, gcMap_at, posOf, ren, renC, renO_box, idsV, idsC, idsO_box, isData_list_none, isData_list_full, isData_int, isData_ptr, isDataL_nil, List.map_cons, List.map_nil, List.flatMap_cons, List.flatMap_nil, List.length_cons, List.length_nil, List.cons_append, List.nil_append, List.append_nil, List.take_succ_cons, List.take_nil, List.not_mem_nil, ↓reduceIte, Bool.false_eq_true, and_true, not_false_eq_true, decide_false, Nat.le_refl, Nat.zero_add, Nat.reduceEqDiff, Nat.reduceAdd, Nat.reduceLT, Nat.reduceLeDiff, roundF_eq, kt_nil, data_Ints, h0', hdT, hdX]
    · rw [if_neg hz]
      simp -implicitDefEqProofs only [code_ops, code_seq, code_cond, code_exit, ops_cons, ops_nil, aOp, opd, upd_at, kt_cons, stepVal, aBin, aInt, isShift, gcE, gc_mk, isTrim_cons, gcIds_mk, newIds_nil, newIds_cons, gcMap_at, posOf, ren, renC, renO_box, renO_tail, idsV, idsC, idsO_box, isData_list_none, isData_list_tail, isData_int, isData_ptr, Option.getD_some, List.map_cons, List.map_nil, List.flatMap_cons, List.flatMap_nil, List.length_cons, List.length_nil, List.cons_append, List.nil_append, List.append_nil, List.getElem?_cons_zero, List.getElem?_cons_succ, List.take_succ_cons, List.take_zero, List.mem_cons, List.not_mem_nil, ↓reduceIte, Bool.false_eq_true, and_true, or_false, not_false_eq_true, decide_false, and_self, Nat.le_refl, Nat.zero_add, Nat.reduceEqDiff, Nat.reduceAdd, Nat.reduceLT, Nat.reduceLeDiff, roundF_eq, kt_nil, data_Ints, h0', hdT, hdX, hdO, hdI]
end
end Go.Abs
