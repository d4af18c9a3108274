/-
  The check of an expression. Conditions: none.
-/
import Derived.Test.YtciacognbcgfiaaDoorN
set_option linter.unusedVariables false
set_option linter.unusedSimpArgs false
set_option maxRecDepth 100000
set_option maxHeartbeats 4000000
namespace Go.Abs
/-! ### Sizes -/
theorem fields_ge : ∀ (as : List CAlt) (b : Int), b ≤ fieldsMax b as ∧ ∀ a ∈ as, (a.binds.length : Int) ≤ fieldsMax b as
  | [], b => ⟨Int.le_refl _, by simp⟩
  | a :: as, b => by
    obtain ⟨h1, h2⟩ := fields_ge as (max b (a.binds.length : Int))
    have e : fieldsMax b (a :: as) = fieldsMax (max b (a.binds.length : Int)) as := rfl
    rw [e]
    refine ⟨by omega, fun x hx => ?_⟩
    rcases List.mem_cons.1 hx with rfl | hx
    · omega
    · exact h2 x hx
theorem ranges_fields {op n : Int} {binds : List Int} {kl : Nat} {as : List CAlt} (h : rangesErr op n binds kl as = 0) : fieldsMax binds.length as ≤ 16 := by
  unfold rangesErr at h
  split at h
  · cases h
  · split at h
    · cases h
    · split at h
      · cases h
      · split at h
        · cases h
        · rename_i ht
          unfold tooMany at ht
          simp only [Bool.or_eq_true, decide_eq_true_eq, not_or] at ht
          have := ht.1.1.1
          split at this <;> omega
theorem shape_alts {op n : Int} {bl kl : Nat} {as : List CAlt} (h : shapeOk op n bl kl as = true) : as.length = 0 ∨ kl = as.length + 1 := by
  unfold shapeOk at h
  split at h
  · simp only [Bool.and_eq_true] at h
    have := h.1.1
    unfold altsOk at this
    simp only [Bool.and_eq_true, beq_iff_eq] at this
    right
    omega
  · split at h
    · cases h
    · unfold shapeEnd at h
      simp only [Bool.and_eq_true, beq_iff_eq] at h
      left
      omega
theorem flat_bound (as : List CAlt) (h : ∀ a ∈ as, a.binds.length ≤ 16) : (as.flatMap (·.binds)).length ≤ 16 * as.length := by
  induction as with
  | nil => simp
  | cons a as ih =>
    rw [List.flatMap_cons, List.length_append, List.length_cons]
    have := h a (by simp)
    have := ih fun x hx => h x (by simp [hx])
    omega
theorem err_bfit {l : Lab} (h : errL l = 0) (hk : l.kops.length ≤ 4096) : (l.binds ++ l.alts.flatMap (·.binds)).length ≤ 16 + 16 * 4096 := by
  unfold errL at h
  split at h
  · cases h
  · rename_i hs
    have hs : shapeOk l.op l.n l.binds.length l.kops.length l.alts = true := by simpa using hs
    split at h
    · rename_i hr; exact absurd h hr
    · rename_i hr
      have hr : rangesErr l.op l.n l.binds l.kops.length l.alts = 0 := Classical.not_not.1 hr
      have hf := ranges_fields hr
      obtain ⟨h1, h2⟩ := fields_ge l.alts (l.binds.length : Int)
      have h3 := flat_bound l.alts fun a ha => by have := h2 a ha; omega
      rw [List.length_append]
      rcases shape_alts hs with h4 | h4 <;> omega
theorem kids_total (e : List CExpr) (h : TreeL e) : (e.flatMap (·.kids)).length + 1 = e.length := by
  have h1 := (range_closed e h).length_eq
  rw [List.length_range, List.length_cons] at h1
  have h2 : ((List.range e.length).flatMap (kidsOf e)).length = (e.flatMap (·.kids)).length := by
    have h3 : e = (List.range e.length).map fun i => (e[i]?).getD ⟨0, 0, [], [], []⟩ := by
      refine List.ext_getElem (by simp) fun i h1 h2 => ?_
      simp [h1]
    conv => rhs; rw [h3, List.flatMap_map]
    rw [List.length_flatMap, List.length_flatMap]
    congr 1
    refine List.map_congr_left fun i hi => ?_
    have hi := List.mem_range.1 hi
    unfold kidsOf
    simp [hi]
  omega
theorem kids_le (e : List CExpr) (h : TreeL e) (x : CExpr) (hx : x ∈ e) : x.kids.length ≤ e.length := by
  have h1 := kids_total e h
  obtain ⟨s, t, rfl⟩ := List.append_of_mem hx
  rw [List.flatMap_append, List.flatMap_cons, List.length_append, List.length_append] at h1
  omega
theorem putK_len {β : Type} (v : Int) (b : β) (m : IM β) : (putK v b m).length ≤ m.length + 1 := by
  have hins : ∀ m : IM β, (insKI v b m).length = m.length + 1 := by
    intro m
    induction m with
    | nil => rfl
    | cons p m ih => unfold insKI; split <;> simp [ih]
  unfold putK
  split
  · unfold setKI; simp
  · rw [hins]; omega
mutual
theorem free_len : ∀ (t : CTree) (s : FS), (freeF t s).2.length ≤ s.2.length + tsize t
  | .mk op n binds kids alts, s => by
    rw [freeF, tsize]
    have := free_lens op binds alts kids 0 (freeHere op n s)
    have h2 : (freeHere op n s).2.length ≤ s.2.length + 1 := by
      unfold freeHere
      split
      · exact putK_len _ _ _
      · omega
    omega
theorem free_lens (op : Int) (binds : List Int) (alts : List CAlt) : ∀ (ks : List CTree) (k : Nat) (s : FS), (freeKs op binds alts ks k s).2.length ≤ s.2.length + tsizes ks
  | [], k, s => by rw [freeKs]; omega
  | kid :: ks, k, s => by
    rw [freeKs, tsizes]
    have h1 := free_lens op binds alts ks (k + 1) ((boundOf op binds alts k).foldl (incr (-1)) (freeF kid ((boundOf op binds alts k).foldl (incr 1) s.1, s.2)).1, (freeF kid ((boundOf op binds alts k).foldl (incr 1) s.1, s.2)).2)
    have h2 := free_len kid ((boundOf op binds alts k).foldl (incr 1) s.1, s.2)
    dsimp only at h1 h2
    omega
end
theorem tfit_at (e : List CExpr) (hk : Ahead e) (hf : ∀ x ∈ e, NodeFit x) (hb : ∀ x ∈ e, BFit x) : ∀ i, i < e.length → TFit (treeAt e i) := by
  intro i
  induction i using Nat.strongRecOn with
  | ind i ih =>
    intro hi
    rw [treeAt_eq e hk i hi]
    have hx := hf e[i] (List.getElem_mem hi)
    refine .mk _ _ _ _ _ (hb e[i] (List.getElem_mem hi)) (by rw [List.length_map]; exact hx.kids) hx.alts ?_
    intro k hkm
    obtain ⟨q, hq, rfl⟩ := List.mem_map.1 hkm
    obtain ⟨q0, q1⟩ := hk i hi q hq
    exact ih q.toNat (by omega) (by omega)
/-! ### The check -/
def opBad (flat : Bool) (op : Int) : Bool := (flat && coreOnly op) || (!flat && flatOnly op)
def labErr (flat : Bool) (l : Lab) : Int := if opBad flat l.op = true then 3 else errL l
def bodyErr (e : List CExpr) (ps : List Int) (flat : Bool) : Int :=
  if treeErr e ≠ 0 then treeErr e
  else if firstErr (e.map fun x => labErr flat (labX e x)) ≠ 0 then firstErr (e.map fun x => labErr flat (labX e x))
  else if twiceOf e ps = true then 7
  else if ((freeOf (grow1 e)).any fun n => !inI' ps n) = true then 6 else 0
theorem firstErr_zero {α : Type} (g : α → Int) : ∀ (l : List α), firstErr (l.map g) = 0 ↔ ∀ x ∈ l, g x = 0
  | [] => by simp [firstErr]
  | x :: l => by
    rw [List.map_cons, firstErr]
    by_cases h : g x = 0
    · rw [if_pos h, firstErr_zero g l]
      simp [h]
    · rw [if_neg h]
      simp [h]
/-- The functions of the check, and what is known of copies and of sorting. -/
structure CLib (L : Lib) : Prop where
  plain : Plain L
  prims : CPrims L sortInts
  f134 : L.fns 134 = some fn134
  f151 : L.fns 151 = some fn151
  grow : ∀ (e : List CExpr) (h : Heap), e.length < 2 ^ 30 → (∀ x ∈ e, NodeFit x) → TreeL e → hgt (grow1 e) ≤ 400 → pcall L 160 [.list (e.map encExpr) none] h = some (.val (encTree (grow1 e)), h)
  f165 : L.fns 165 = some fn165
  f167 : L.fns 167 = some fn167
  f181 : L.fns 181 = some fn181
  f190 : L.fns 190 = some fn190
  f191 : L.fns 191 = some fn191
  f192 : L.fns 192 = some fn192
  f193 : L.fns 193 = some fn193
  f194 : L.fns 194 = some fn194
  f195 : L.fns 195 = some fn195
  f196 : L.fns 196 = some fn196
  f232 : L.fns 232 = some fn232
  f234 : L.fns 234 = some fn234
  f235 : L.fns 235 = some fn235
  f236 : L.fns 236 = some fn236
  f258 : L.fns 258 = some fn258
  f259 : L.fns 259 = some fn259
  f264 : L.fns 264 = some fn264
  f265 : L.fns 265 = some fn265
  f266 : L.fns 266 = some fn266
section
variable {L : Lib} (hC : CLib L)
include hC
theorem body_l0 (e : List CExpr) (hl : e.length < 2 ^ 30) (hf : ∀ x ∈ e, NodeFit x) (hk : Ahead e) (ps : List Int) (flat : Bool) :
    loopF L.pure (call L) 1 [1, 2, 3, 18, 19, 20] [1, 3, 6] 0 fn165_l0 ⟨kt [1, 2, 3, 18, 19, 20] [.list (ps.map encI) none, .bool flat, .vptr [.list (e.map encExpr) none] 0, .list (e.map encExpr) none, .int .i64 e.length, .int .i64 ((0 : Nat) : Int)], [.gone]⟩ =
    some (if firstErr (e.map fun x => labErr flat (labX e x)) = 0 then (.normal, ⟨kt [1, 3, 6] [.list (ps.map encI) none, .vptr [.list (e.map encExpr) none] 0, .junk], [.gone]⟩)
      else (.ret, ⟨kt [1, 3, 6] [.list (ps.map encI) none, .vptr [.list (e.map encExpr) none] 0, .int .i64 (firstErr (e.map fun x => labErr flat (labX e x)))], [.gone]⟩)) := by
  have hL := hC.plain
  have hp := hL.pure
  have hdE := data_Exprs e
  have hround : ∀ (i : Nat) (hi : i < e.length), roundF L.pure (call L) 1 [1, 2, 3, 18, 19, 20] [1, 3, 6] fn165_l0 ⟨kt [1, 2, 3, 18, 19, 20] [.list (ps.map encI) none, .bool flat, .vptr [.list (e.map encExpr) none] 0, .list (e.map encExpr) none, .int .i64 e.length, .int .i64 i], [.gone]⟩ =
      some (if labErr flat (labX e e[i]) = 0 then (.normal, ⟨kt [1, 2, 3, 18, 19, 20] [.list (ps.map encI) none, .bool flat, .vptr [.list (e.map encExpr) none] 0, .list (e.map encExpr) none, .int .i64 e.length, .int .i64 ((i + 1 : Nat) : Int)], [.gone]⟩)
        else (.ret, ⟨kt [1, 3, 6] [.list (ps.map encI) none, .vptr [.list (e.map encExpr) none] 0, .int .i64 (labErr flat (labX e e[i]))], [.gone]⟩)) := by
    intro i hi
    obtain ⟨h1, h2, h3⟩ := round_c encExpr e hl i hi
    have hn := node_ok hL hC.f265 hC.f264 hC.f266 hC.f258 hC.f259 hC.f234 hC.f235 hC.f194 hC.f193 e e[i] (hf e[i] (List.getElem_mem hi)) (fun k hkm => by have := hk i hi k hkm; omega)
    have c1 := coreOnly_ok hL hC.f191 e[i].op
    have c2 := flatOnly_ok hL hC.f192 e[i].op
    unfold nodeErr at hn
    unfold labErr
    have hop : (labX e e[i]).op = e[i].op := rfl
    rw [hop]
    generalize labX e e[i] = lb at *
    generalize e[i] = x at *
    rw [encExpr_eq] at hn
    unfold opBad
    cases flat with
    | true =>
      cases hc : coreOnly x.op with
      | true =>
        rw [hc] at c1
        unfold fn165_l0
        simp -implicitDefEqProofs only [code_skip, code_ops, code_seq, code_cond, code_block, code_ret, ops_cons, ops_cons_g, ops_nil, aOp, opd, upd_at, upd_none, kt_cons, stepVal, stepHeap, aBin, aInt, aIndexList, isShift, aWanted, aLoad1, aStore, readAt, aField, leaf, acells_agg, cellsSet, gcE, gc_mk, isTrim_cons, gcIds_mk, newIds_nil, gcMap_at, posOf, ren, renC, renO_gone, idsV, idsC, idsO_gone, wipe_int, isData_list_none, isData_int, isData_vptr, isDataL_nil, isDataL_cons, beqTF, beq_self_eq_true, Option.map_some, List.map_cons, List.map_nil, List.flatMap_cons, List.flatMap_nil, List.length_cons, List.length_nil, List.cons_append, List.nil_append, List.append_nil, List.getElem?_cons_zero, List.getElem?_cons_succ, List.set_cons_zero, List.set_cons_succ, List.take_succ_cons, List.take_zero, List.drop_succ_cons, List.drop_zero, List.take_nil, List.drop_nil, List.all_cons, List.all_nil, ↓reduceIte, Bool.and_true, Bool.false_and, Bool.or_false, Bool.not_true, Bool.false_eq_true, decide_true, decide_false, and_self, Nat.le_refl, Nat.add_zero, Nat.zero_add, Nat.reduceEqDiff, Nat.reduceAdd, Nat.reduceLeDiff, Int.reduceEq, Int.toNat_natCast, Int.natCast_nonneg, roundF_eq, kt_nil, onlyVal, encExpr_eq, data_Ints, h1, h2, h3, c1, hdE, doCall_p L hp, hp]
      | false =>
        rw [hc] at c1
        by_cases hz : errL lb = 0
        · rw [hz] at hn
          unfold fn165_l0
          simp -implicitDefEqProofs only [code_skip, code_ops, code_seq, code_cond, code_block, ops_cons, ops_cons_g, ops_nil, aOp, opd, upd_at, upd_none, kt_cons, stepVal, stepHeap, aBin, aInt, aUn, aIndexList, isShift, aWanted, aLoad1, aStore, readAt, aField, leaf, acells_agg, cellsSet, gc_mk, isTrim_cons, gcIds_mk, newIds_nil, gcMap_at, posOf, ren, renC, renO_gone, idsV, idsC, idsO_gone, wipe_agg, wipe_int, wipe_func, wipeC_list, wipeC_int, isData_list_none, isData_bool, isData_int, isData_agg, isData_func, isData_vptr, isDataL_nil, isDataL_cons, beqFT, beq_self_eq_true, Option.map_some, List.map_cons, List.map_nil, List.flatMap_cons, List.flatMap_nil, List.length_cons, List.length_nil, List.cons_append, List.nil_append, List.append_nil, List.getElem?_cons_zero, List.getElem?_cons_succ, List.set_cons_zero, List.set_cons_succ, List.take_succ_cons, List.take_zero, List.drop_succ_cons, List.drop_zero, List.take_nil, List.drop_nil, List.all_cons, List.all_nil, ↓reduceIte, Bool.and_true, Bool.and_false, Bool.false_and, Bool.or_false, Bool.not_true, Bool.false_eq_true, decide_true, decide_false, and_self, Nat.le_refl, Nat.add_zero, Nat.zero_add, Nat.reduceEqDiff, Nat.reduceAdd, Nat.reduceLeDiff, Int.toNat_natCast, Int.natCast_nonneg, roundF_eq, kt_nil, onlyVal, encExpr_eq, data_Ints, data_Alts, h1, h2, h3, c1, hn, hz, hdE, doCall_p L hp, hp, bne]
        · have hz' : (errL lb == 0) = false := by simpa using hz
          unfold fn165_l0
          simp -implicitDefEqProofs only [code_skip, code_ops, code_seq, code_cond, code_block, code_ret, ops_cons, ops_cons_g, ops_nil, aOp, opd, upd_at, upd_none, kt_cons, stepVal, stepHeap, aBin, aInt, aUn, aIndexList, isShift, aWanted, aLoad1, aStore, readAt, aField, leaf, acells_agg, cellsSet, gcE, gc_mk, isTrim_cons, gcIds_mk, newIds_nil, gcMap_at, posOf, ren, renC, renO_gone, idsV, idsC, idsO_gone, wipe_agg, wipe_int, wipe_func, wipeC_list, wipeC_int, isData_list_none, isData_int, isData_agg, isData_func, isData_vptr, isDataL_nil, isDataL_cons, beqFT, beq_self_eq_true, Option.map_some, List.map_cons, List.map_nil, List.flatMap_cons, List.flatMap_nil, List.length_cons, List.length_nil, List.cons_append, List.nil_append, List.append_nil, List.getElem?_cons_zero, List.getElem?_cons_succ, List.set_cons_zero, List.set_cons_succ, List.take_succ_cons, List.take_zero, List.drop_succ_cons, List.drop_zero, List.take_nil, List.drop_nil, List.all_cons, List.all_nil, ↓reduceIte, Bool.and_true, Bool.and_false, Bool.false_and, Bool.or_false, Bool.not_true, Bool.not_false, Bool.false_eq_true, decide_true, decide_false, and_self, Nat.le_refl, Nat.add_zero, Nat.zero_add, Nat.reduceEqDiff, Nat.reduceAdd, Nat.reduceLeDiff, Int.toNat_natCast, Int.natCast_nonneg, roundF_eq, kt_nil, onlyVal, encExpr_eq, data_Ints, data_Alts, h1, h2, h3, c1, hn, hz, hz', hdE, doCall_p L hp, hp, bne]
    | false =>
      cases hc : flatOnly x.op with
      | true =>
        rw [hc] at c2
        unfold fn165_l0
        simp -implicitDefEqProofs only [code_skip, code_ops, code_seq, code_cond, code_block, code_ret, ops_cons, ops_cons_g, ops_nil, aOp, opd, upd_at, upd_none, kt_cons, stepVal, stepHeap, aBin, aInt, aUn, aIndexList, isShift, aWanted, aLoad1, aStore, readAt, aField, leaf, acells_agg, cellsSet, gcE, gc_mk, isTrim_cons, gcIds_mk, newIds_nil, gcMap_at, posOf, ren, renC, renO_gone, idsV, idsC, idsO_gone, wipe_int, isData_list_none, isData_int, isData_vptr, isDataL_nil, isDataL_cons, beqFT, beq_self_eq_true, Option.map_some, List.map_cons, List.map_nil, List.flatMap_cons, List.flatMap_nil, List.length_cons, List.length_nil, List.cons_append, List.nil_append, List.append_nil, List.getElem?_cons_zero, List.getElem?_cons_succ, List.set_cons_zero, List.set_cons_succ, List.take_succ_cons, List.take_zero, List.drop_succ_cons, List.drop_zero, List.take_nil, List.drop_nil, List.all_cons, List.all_nil, ↓reduceIte, Bool.and_true, Bool.false_and, Bool.or_true, Bool.not_false, Bool.false_eq_true, decide_true, decide_false, and_self, Nat.le_refl, Nat.add_zero, Nat.zero_add, Nat.reduceEqDiff, Nat.reduceAdd, Nat.reduceLeDiff, Int.reduceEq, Int.toNat_natCast, Int.natCast_nonneg, roundF_eq, kt_nil, onlyVal, encExpr_eq, data_Ints, h1, h2, h3, c2, hdE, doCall_p L hp, hp]
      | false =>
        rw [hc] at c2
        by_cases hz : errL lb = 0
        · rw [hz] at hn
          unfold fn165_l0
          simp -implicitDefEqProofs only [code_skip, code_ops, code_seq, code_cond, code_block, ops_cons, ops_cons_g, ops_nil, aOp, opd, upd_at, upd_none, kt_cons, stepVal, stepHeap, aBin, aInt, aUn, aIndexList, isShift, aWanted, aLoad1, aStore, readAt, aField, leaf, acells_agg, cellsSet, gc_mk, isTrim_cons, gcIds_mk, newIds_nil, gcMap_at, posOf, ren, renC, renO_gone, idsV, idsC, idsO_gone, wipe_agg, wipe_int, wipe_func, wipeC_list, wipeC_int, isData_list_none, isData_bool, isData_int, isData_agg, isData_func, isData_vptr, isDataL_nil, isDataL_cons, beqFT, beq_self_eq_true, Option.map_some, List.map_cons, List.map_nil, List.flatMap_cons, List.flatMap_nil, List.length_cons, List.length_nil, List.cons_append, List.nil_append, List.append_nil, List.getElem?_cons_zero, List.getElem?_cons_succ, List.set_cons_zero, List.set_cons_succ, List.take_succ_cons, List.take_zero, List.drop_succ_cons, List.drop_zero, List.take_nil, List.drop_nil, List.all_cons, List.all_nil, ↓reduceIte, Bool.and_true, Bool.and_false, Bool.false_and, Bool.or_false, Bool.not_true, Bool.not_false, Bool.false_eq_true, decide_true, decide_false, and_self, Nat.le_refl, Nat.add_zero, Nat.zero_add, Nat.reduceEqDiff, Nat.reduceAdd, Nat.reduceLeDiff, Int.toNat_natCast, Int.natCast_nonneg, roundF_eq, kt_nil, onlyVal, encExpr_eq, data_Ints, data_Alts, h1, h2, h3, c2, hn, hz, hdE, doCall_p L hp, hp, bne]
        · have hz' : (errL lb == 0) = false := by simpa using hz
          unfold fn165_l0
          simp -implicitDefEqProofs only [code_skip, code_ops, code_seq, code_cond, code_block, code_ret, ops_cons, ops_cons_g, ops_nil, aOp, opd, upd_at, upd_none, kt_cons, stepVal, stepHeap, aBin, aInt, aUn, aIndexList, isShift, aWanted, aLoad1, aStore, readAt, aField, leaf, acells_agg, cellsSet, gcE, gc_mk, isTrim_cons, gcIds_mk, newIds_nil, gcMap_at, posOf, ren, renC, renO_gone, idsV, idsC, idsO_gone, wipe_agg, wipe_int, wipe_func, wipeC_list, wipeC_int, isData_list_none, isData_int, isData_agg, isData_func, isData_vptr, isDataL_nil, isDataL_cons, beqFT, beq_self_eq_true, Option.map_some, List.map_cons, List.map_nil, List.flatMap_cons, List.flatMap_nil, List.length_cons, List.length_nil, List.cons_append, List.nil_append, List.append_nil, List.getElem?_cons_zero, List.getElem?_cons_succ, List.set_cons_zero, List.set_cons_succ, List.take_succ_cons, List.take_zero, List.drop_succ_cons, List.drop_zero, List.take_nil, List.drop_nil, List.all_cons, List.all_nil, ↓reduceIte, Bool.and_true, Bool.and_false, Bool.false_and, Bool.or_false, Bool.not_false, Bool.false_eq_true, decide_true, decide_false, and_self, Nat.le_refl, Nat.add_zero, Nat.zero_add, Nat.reduceEqDiff, Nat.reduceAdd, Nat.reduceLeDiff, Int.toNat_natCast, Int.natCast_nonneg, roundF_eq, kt_nil, onlyVal, encExpr_eq, data_Ints, data_Alts, h1, h2, h3, c2, hn, hz, hz', hdE, doCall_p L hp, hp, bne]
  refine loopF_err e (fun x => labErr flat (labX e x)) (fun i => ⟨kt [1, 2, 3, 18, 19, 20] [.list (ps.map encI) none, .bool flat, .vptr [.list (e.map encExpr) none] 0, .list (e.map encExpr) none, .int .i64 e.length, .int .i64 i], [.gone]⟩) _
    (fun r => ⟨kt [1, 3, 6] [.list (ps.map encI) none, .vptr [.list (e.map encExpr) none] 0, .int .i64 r], [.gone]⟩) ?_ ?_ ?_
  · intro i hi hz
    rw [hround i hi, if_pos hz]
  · intro i hi hz
    rw [hround i hi, if_neg hz]
  · have h0 := append_c e.length
    unfold fn165_l0
    simp -implicitDefEqProofs only [code_ops, code_seq, code_cond, code_exit, ops_cons, ops_nil, aOp, opd, upd_at, kt_cons, stepVal, aBin, aInt, isShift, gcE, gc_mk, isTrim_cons, gcIds_mk, newIds_nil, gcMap_at, posOf, ren, renC, renO_gone, idsV, idsC, idsO_gone, isData_list_none, isData_vptr, isData_junk, isDataL_nil, isDataL_cons, List.map_cons, List.map_nil, List.flatMap_cons, List.flatMap_nil, List.length_cons, List.length_nil, List.append_nil, List.take_succ_cons, List.take_nil, ↓reduceIte, Bool.and_true, Bool.false_eq_true, decide_false, Nat.le_refl, Nat.zero_add, Nat.reduceEqDiff, roundF_eq, kt_nil, data_Ints, h0, hdE]
theorem body_l1 (ps fs : List Int) (hps : ps.length < 2 ^ 30) (hfs : fs.length < 2 ^ 30) :
    loopF L.pure (call L) 1 [1, 51, 52, 53] [6] 2 fn165_l1 ⟨kt [1, 51, 52, 53] [.list (ps.map encI) none, .list (fs.map encI) none, .int .i64 fs.length, .int .i64 ((0 : Nat) : Int)], [.gone]⟩ =
    some (if (fs.any fun n => !inI' ps n) = true then (.ret, ⟨kt [6] [.int .i64 6], [.gone]⟩) else (.normal, ⟨kt [6] [.junk], [.gone]⟩)) := by
  have hL := hC.plain
  have hp := hL.pure
  refine loopF_any fs (fun n => !inI' ps n) (fun i => ⟨kt [1, 51, 52, 53] [.list (ps.map encI) none, .list (fs.map encI) none, .int .i64 fs.length, .int .i64 i], [.gone]⟩) _ _ ?_ ?_ ?_
  · intro i hi hq
    obtain ⟨h1, h2, h3⟩ := round_c encI fs hfs i hi
    have hc := contains_ok hL hC.f181 hC.f151 ps hps fs[i]
    have hq : inI' ps fs[i] = true := by simpa using hq
    rw [hq] at hc
    generalize fs[i] = a at *
    unfold fn165_l1
    simp -implicitDefEqProofs only [code_skip, code_ops, code_seq, code_cond, code_block, ops_cons, ops_nil, aOp, opd, upd_at, kt_cons, stepVal, aBin, aInt, aUn, aIndexList, isShift, aLoad1, acells_int, gc_mk, isTrim_cons, gcIds_mk, newIds_nil, gcMap_at, posOf, ren, renC, renO_gone, idsV, idsC, idsO_gone, wipe_list, wipe_int, isData_list_none, isData_int, isDataL_nil, isDataL_cons, List.map_cons, List.map_nil, List.flatMap_cons, List.flatMap_nil, List.length_cons, List.length_nil, List.append_nil, List.getElem?_cons_zero, List.take_succ_cons, List.take_nil, ↓reduceIte, Bool.and_true, Bool.not_true, Bool.false_eq_true, decide_true, decide_false, and_self, Nat.le_refl, Nat.zero_add, Nat.reduceEqDiff, Int.toNat_natCast, Int.natCast_nonneg, roundF_eq, kt_nil, onlyVal, encI_eq, data_Ints, h1, h2, h3, hc, doCall_p L hp, hp]
  · intro i hi hq
    obtain ⟨h1, h2, h3⟩ := round_c encI fs hfs i hi
    have hc := contains_ok hL hC.f181 hC.f151 ps hps fs[i]
    have hq : inI' ps fs[i] = false := by simpa using hq
    rw [hq] at hc
    generalize fs[i] = a at *
    unfold fn165_l1
    simp -implicitDefEqProofs only [code_skip, code_ops, code_seq, code_cond, code_block, code_ret, ops_cons, ops_nil, aOp, opd, upd_at, kt_cons, stepVal, aBin, aInt, aUn, aIndexList, isShift, aLoad1, acells_int, gcE, gc_mk, isTrim_cons, gcIds_mk, newIds_nil, gcMap_at, posOf, ren, renC, renO_gone, idsV, idsC, idsO_gone, wipe_list, wipe_int, isData_list_none, isData_int, isDataL_nil, isDataL_cons, List.map_cons, List.map_nil, List.flatMap_cons, List.flatMap_nil, List.length_cons, List.length_nil, List.append_nil, List.getElem?_cons_zero, List.take_succ_cons, List.take_nil, ↓reduceIte, Bool.and_true, Bool.not_false, Bool.false_eq_true, decide_true, decide_false, and_self, Nat.le_refl, Nat.zero_add, Nat.reduceEqDiff, Int.toNat_natCast, Int.natCast_nonneg, roundF_eq, kt_nil, onlyVal, encI_eq, data_Ints, h1, h2, h3, hc, doCall_p L hp, hp]
  · have h0 := append_c fs.length
    unfold fn165_l1
    simp -implicitDefEqProofs only [code_ops, code_seq, code_cond, code_exit, ops_cons, ops_nil, aOp, opd, upd_at, kt_cons, stepVal, aBin, aInt, isShift, gcE, gc_mk, isTrim_cons, gcIds_mk, newIds_nil, gcMap_at, posOf, ren, renC, renO_gone, idsV, idsC, idsO_gone, isData_junk, List.map_cons, List.map_nil, List.flatMap_cons, List.flatMap_nil, List.length_cons, List.length_nil, List.append_nil, List.take_succ_cons, List.take_nil, ↓reduceIte, Bool.false_eq_true, decide_false, Nat.le_refl, Nat.zero_add, Nat.reduceEqDiff, roundF_eq, kt_nil, h0]
theorem body_ok (e : List CExpr) (hl : e.length < 2 ^ 30) (hf : ∀ x ∈ e, NodeFit x) (ps : List Int) (hps : ps.length < 2 ^ 30) (flat : Bool) (h : Heap) :
    pcall L 165 [.list (e.map encExpr) none, .list (ps.map encI) none, .bool flat] h = some (.val (.int .i64 (bodyErr e ps flat)), h) := by
  have hL := hC.plain
  have hp := hL.pure
  have hdE := data_Exprs e
  refine pcall_fn hL hC.f165 rfl ?_ h
  have htree := tree_ok hL hC.f190 e hf hl
  unfold bodyErr
  by_cases ht : treeErr e = 0
  · have htz := (treeErr_zero e).1 ht
    obtain ⟨hT, hn, hg⟩ := htz
    have hne : e ≠ [] := fun h => by have := hT.pos; rw [h] at this; simp at this
    have hl0 := body_l0 hC e hl hf hT.ahead ps flat
    simp only [Int.natCast_zero] at hl0
    rw [if_neg (fun h => h ht)]
    rw [ht] at htree
    by_cases hz : firstErr (e.map fun x => labErr flat (labX e x)) = 0
    · rw [if_pos hz] at hl0
      rw [if_neg (fun h => h hz)]
      have hall := (firstErr_zero _ e).1 hz
      have herr : ∀ x ∈ e, errL (labX e x) = 0 := by
        intro x hx
        have := hall x hx
        unfold labErr at this
        split at this
        · cases this
        · exact this
      have hb : ∀ x ∈ e, BFit x := by
        intro x hx
        have := err_bfit (herr x hx) (by unfold labX; rw [List.length_map]; have := kids_le e hT x hx; omega)
        unfold BFit
        unfold labX at this
        dsimp only at this
        omega
      have htw := twice_ok hL hC.f232 hC.f195 e hl hf hb ps hps
      cases hw : twiceOf e ps with
      | true =>
        rw [hw] at htw
        rw [if_pos rfl]
        unfold fn165
        simp -implicitDefEqProofs only [code_skip, code_ops, code_seq, code_cond, code_ret, ops_cons, ops_nil, aOp, opd, upd_at, initTm_at, kt_cons, stepVal, aBin, aLen, aInt, isShift, aLoad1, leaf, acells_list, endFn, aResults, aResult, tupled, code_loopF, gc_mk, isTrim_cons, gcIds_mk, newIds_nil, gcMap_at, posOf, ren, renC, renO_gone, idsV, idsC, idsO_gone, wipe_list, wipeR_int, wipeC_list, isData_list_none, isData_bool, isData_int, isData_vptr, isDataL_nil, isDataL_cons, beq_self_eq_true, Option.getD_some, List.map_cons, List.map_nil, List.flatMap_cons, List.flatMap_nil, List.length_cons, List.length_nil, List.length_map, List.nil_append, List.append_nil, List.getElem?_cons_zero, List.getElem?_cons_succ, List.set_cons_zero, List.take_succ_cons, List.take_nil, List.all_cons, List.all_nil, ↓reduceIte, Bool.and_true, Bool.not_true, Bool.false_eq_true, false_and, decide_false, and_self, Nat.le_refl, reduceCtorEq, Nat.zero_add, Nat.reduceEqDiff, Nat.reduceLT, code_freeze, freezeS_mk, frzAt_mk, frzT_at, frz, frzC, frzO, onlyVal, outOf_val, data_Ints, htree, hl0, htw, hdE, doCall_p L hp, hp, bne]
      | false =>
        rw [hw] at htw
        rw [if_neg (by decide)]
        have hgrow := fun h => hC.grow e h hl hf hT hg
        have hfit : TFit (grow1 e) := tfit_at e hT.ahead hf hb _ (by have := hT.pos; omega)
        have hsz := tsize_grow e hT
        have hfl := free_len (grow1 e) ([], [])
        rw [List.length_nil, Nat.zero_add, hsz] at hfl
        have hfree := freeOf_ok hL hC.prims hC.f236 hC.f196 hC.f167 (grow1 e) hfit (by omega) (by omega)
        have hfo : (freeOf (grow1 e)).length < 2 ^ 30 := by
          unfold freeOf keysOf
          rw [sortInts_len, List.length_map]
          omega
        have hl1 := body_l1 hC ps (freeOf (grow1 e)) hps hfo
        simp only [Int.natCast_zero] at hl1
        generalize freeOf (grow1 e) = fs at *
        obtain ⟨tc, htc, hdt⟩ := enc_vptr (grow1 e)
        rw [htc] at hgrow hfree
        cases hx : fs.any fun n => !inI' ps n with
        | true =>
          simp only [hx, if_true] at hl1
          rw [if_pos rfl]
          unfold fn165
          simp -implicitDefEqProofs only [code_skip, code_ops, code_seq, code_cond, ops_cons, ops_nil, aOp, opd, upd_at, initTm_at, kt_cons, stepVal, aBin, aLen, aInt, isShift, aLoad1, leaf, acells_list, endFn, aResults, aResult, tupled, code_loopF, gc_mk, isTrim_cons, gcIds_mk, newIds_nil, gcMap_at, posOf, ren, renC, renO_gone, idsV, idsC, idsO_gone, wipe_list, wipeR_int, wipe_vptr, wipeC_list, isData_list_none, isData_bool, isData_int, isData_vptr, isDataL_nil, isDataL_cons, beq_self_eq_true, Option.getD_some, List.map_cons, List.map_nil, List.flatMap_cons, List.flatMap_nil, List.length_cons, List.length_nil, List.length_map, List.nil_append, List.append_nil, List.getElem?_cons_zero, List.getElem?_cons_succ, List.set_cons_zero, List.take_succ_cons, List.take_nil, List.all_cons, List.all_nil, ↓reduceIte, Bool.and_true, Bool.not_true, Bool.false_eq_true, false_and, decide_false, and_self, Nat.le_refl, reduceCtorEq, Nat.zero_add, Nat.reduceEqDiff, Nat.reduceLT, kt_nil, code_freeze, freezeS_mk, frzAt_mk, frzT_at, frz, frzC, frzO, onlyVal, outOf_val, data_Ints, htree, hl0, htw, hgrow, hfree, hl1, hdE, hdt, wipe_vptr, doCall_p L hp, hp, bne]
        | false =>
          simp only [hx, Bool.false_eq_true, if_false] at hl1
          rw [if_neg (by decide)]
          unfold fn165
          simp -implicitDefEqProofs only [code_skip, code_ops, code_seq, code_cond, code_ret, ops_cons, ops_nil, aOp, opd, upd_at, initTm_at, kt_cons, stepVal, aBin, aLen, aInt, isShift, aLoad1, leaf, acells_list, endFn, aResults, aResult, tupled, code_loopF, gc_mk, isTrim_cons, gcIds_mk, newIds_nil, gcMap_at, posOf, ren, renC, renO_gone, idsV, idsC, idsO_gone, wipe_list, wipeR_int, wipe_vptr, wipeC_list, isData_list_none, isData_bool, isData_int, isData_vptr, isDataL_nil, isDataL_cons, beq_self_eq_true, Option.getD_some, List.map_cons, List.map_nil, List.flatMap_cons, List.flatMap_nil, List.length_cons, List.length_nil, List.length_map, List.nil_append, List.append_nil, List.getElem?_cons_zero, List.getElem?_cons_succ, List.set_cons_zero, List.take_succ_cons, List.take_nil, List.all_cons, List.all_nil, ↓reduceIte, Bool.and_true, Bool.not_true, Bool.false_eq_true, false_and, decide_false, and_self, Nat.le_refl, reduceCtorEq, Nat.zero_add, Nat.reduceEqDiff, Nat.reduceLT, kt_nil, code_freeze, freezeS_mk, frzAt_mk, frzT_at, frz, frzC, frzO, onlyVal, outOf_val, data_Ints, htree, hl0, htw, hgrow, hfree, hl1, hdE, hdt, wipe_vptr, doCall_p L hp, hp, bne]
    · rw [if_neg hz] at hl0
      rw [if_pos hz]
      generalize firstErr (e.map fun x => labErr flat (labX e x)) = r at *
      unfold fn165
      simp -implicitDefEqProofs only [code_skip, code_ops, code_seq, code_cond, ops_cons, ops_nil, aOp, opd, upd_at, initTm_at, kt_cons, stepVal, aBin, aLen, aInt, isShift, aLoad1, leaf, acells_list, endFn, aResults, aResult, tupled, code_loopF, gc_mk, isTrim_cons, gcIds_mk, newIds_nil, gcMap_at, posOf, ren, renC, renO_gone, idsV, idsC, idsO_gone, wipe_list, wipeR_int, wipeC_list, isData_list_none, isData_bool, isData_int, isData_vptr, isDataL_nil, isDataL_cons, beq_self_eq_true, Option.getD_some, List.map_cons, List.map_nil, List.flatMap_cons, List.flatMap_nil, List.length_cons, List.length_nil, List.length_map, List.nil_append, List.append_nil, List.getElem?_cons_zero, List.getElem?_cons_succ, List.set_cons_zero, List.take_succ_cons, List.take_nil, List.all_cons, List.all_nil, ↓reduceIte, Bool.and_true, Bool.not_true, Bool.false_eq_true, false_and, decide_false, and_self, Nat.le_refl, reduceCtorEq, Nat.zero_add, Nat.reduceEqDiff, Nat.reduceLT, code_freeze, freezeS_mk, frzAt_mk, frzT_at, frz, frzC, frzO, onlyVal, outOf_val, data_Ints, htree, hl0, hdE, doCall_p L hp, hp, bne]
  · have hz' : (treeErr e == 0) = false := by simpa using ht
    rw [if_pos ht]
    unfold fn165
    simp -implicitDefEqProofs only [code_ops, code_seq, code_cond, code_ret, ops_cons, ops_nil, aOp, opd, upd_at, initTm_at, stepVal, aBin, aInt, isShift, aLoad1, acells_list, endFn, aResults, aResult, tupled, wipe_list, wipeR_int, isData_list_none, isDataL_nil, isDataL_cons, Option.getD_some, List.map_cons, List.map_nil, List.length_nil, List.nil_append, List.getElem?_cons_zero, ↓reduceIte, Bool.and_true, Bool.not_false, Bool.false_eq_true, and_self, Nat.reduceEqDiff, onlyVal, outOf_val, htree, hz', hdE, doCall_p L hp, hp, bne]
def checkErr (e : List CExpr) : Int := bodyErr e [] false
theorem check_ok (e : List CExpr) (hl : e.length < 2 ^ 30) (hf : ∀ x ∈ e, NodeFit x) (h : Heap) : pcall L 134 [.list (e.map encExpr) none] h = some (.val (.int .i64 (checkErr e)), h) := by
  have hL := hC.plain
  have hp := hL.pure
  have hdE := data_Exprs e
  refine pcall_fn hL hC.f134 rfl ?_ h
  have hb := body_ok hC e hl hf [] (by simp) false
  unfold checkErr fn134
  simp -implicitDefEqProofs only [code_ops, code_seq, code_ret, ops_cons, ops_nil, aOp, opd, upd_at, initTm_at, endFn, aResults, aResult, tupled, wipe_list, wipe_bool, isData_list_none, isData_bool, isDataL_nil, isDataL_cons, Option.getD_some, List.map_cons, List.map_nil, List.getElem?_cons_zero, ↓reduceIte, Bool.and_true, and_self, reduceCtorEq, onlyVal, hdE, doCall_p L hp, hp]
  simp only [List.map_nil] at hb
  simp -implicitDefEqProofs only [upd_at, wipeR_int, ↓reduceIte, outOf_val, hb]
end
end Go.Abs
