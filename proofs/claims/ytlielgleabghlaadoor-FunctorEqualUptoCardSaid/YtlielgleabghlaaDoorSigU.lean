/-
  What EqualFunc answers over a matcher. Conditions: none.
-/
import Derived.Test.YtlielgleabghlaaDoorSigT
import Derived.Test.YtlielgleabghlaaDoorC

set_option linter.unusedVariables false
set_option linter.unusedSimpArgs false
set_option maxRecDepth 100000
set_option maxHeartbeats 4000000
namespace Go.Abs

theorem renO_encM (ρ : Nat → Option Nat) (m : Mt) : renO ρ (.map (encM m)) = .map (encM m) := congrArg AObj.map (encM_map ρ m)
theorem idsO_encM (m : Mt) : idsO (.map (encM m)) = [] := encM_ids m

def MFit (m : Mt) : Prop := ∀ p ∈ m, TyFit p.2
theorem TyFit.args {t : Ty} (h : TyFit t) : t.args.length < 2 ^ 30 ∧ ∀ a ∈ t.args, TyFit a := by
  cases h with
  | mk hl ha => exact ⟨hl, ha⟩
theorem insM_fit {m : Mt} (hm : MFit m) (v : Int) {t : Ty} (ht : TyFit t) : MFit (insM v t m) := by
  induction m with
  | nil => intro p hp; rw [List.mem_singleton.1 hp]; exact ht
  | cons q m ih =>
    unfold insM
    split
    · intro p hp
      rcases List.mem_cons.1 hp with rfl | hp
      · exact ht
      · exact hm p hp
    · intro p hp
      rcases List.mem_cons.1 hp with rfl | hp
      · exact hm _ (by simp)
      · exact ih (fun p hp => hm p (by simp [hp])) p hp
theorem findM_fit {m : Mt} (hm : MFit m) {v : Int} {t : Ty} (h : findM v m = some t) : TyFit t := by
  induction m with
  | nil => cases h
  | cons q m ih =>
    unfold findM at h
    split at h
    · injection h with h
      rw [← h]
      exact hm q (by simp)
    · exact ih (fun p hp => hm p (by simp [hp])) h
theorem inst_eq (k : Int) (n : ByteArray) (v : Int) (as : List Ty) (b : Ty) (m : Mt) : inst (.mk k n v as) b m =
    if k = 0 then (match findM v m with | some was => (sameType was b, m) | none => (true, insM v b m))
    else if k ≠ b.kind then (false, m) else if (k = 1 ∨ k = 5) ∧ n ≠ b.name then (false, m)
    else if as.length ≠ b.args.length then (false, m) else inst.insts as b.args m := by rw [inst]; rfl
theorem insts_cons (a b : Ty) (as bs : List Ty) (m : Mt) : inst.insts (a :: as) (b :: bs) m = match inst a b m with | (true, m') => inst.insts as bs m' | (false, m') => (false, m') := by rw [inst.insts]; rfl
theorem insts_nil (bs : List Ty) (m : Mt) : inst.insts [] bs m = (true, m) := by rw [inst.insts]; simp
theorem insts_fit : ∀ (as bs : List Ty) (m : Mt), (∀ a ∈ as, ∀ (b : Ty) (m : Mt), TyFit b → MFit m → MFit (inst a b m).2) → (∀ b ∈ bs, TyFit b) → MFit m → MFit (inst.insts as bs m).2
  | [], bs, m, ih, hbs, hm => by rw [insts_nil]; exact hm
  | a :: as, [], m, ih, hbs, hm => by
    rw [inst.insts]
    · exact hm
    · simp
  | a :: as, b :: bs, m, ih, hbs, hm => by
    rw [insts_cons]
    have h1 := ih a (by simp) b m (hbs b (by simp)) hm
    split
    · rename_i m' he
      rw [he] at h1
      exact insts_fit as bs m' (fun x hx => ih x (by simp [hx])) (fun x hx => hbs x (by simp [hx])) h1
    · rename_i m' he
      rw [he] at h1
      exact h1
theorem inst_fit (a : Ty) : ∀ (b : Ty) (m : Mt), TyFit b → MFit m → MFit (inst a b m).2 := by
  induction a using Ty.ind with
  | h k n v as ih =>
    intro b m hb hm
    rw [inst_eq]
    split
    · split
      · exact hm
      · exact insM_fit hm v hb
    · split
      · exact hm
      · split
        · exact hm
        · split
          · exact hm
          · exact insts_fit as b.args m ih hb.args.2 hm

def InstOk (L : Lib) (a b : Ty) : Prop := ∀ m : Mt, MFit m → call L 55 [.ptr (some (0, 0)), .agg [.int .i64 a.kind, .str a.name, .int .i64 a.var, .list (a.args.map encTy) none], .agg [.int .i64 b.kind, .str b.name, .int .i64 b.var, .list (b.args.map encTy) none]] [.box [.map (some 1)], .map (encM m)] =
  some (.val (.bool (inst a b m).1), [.box [.map (some 1)], .map (encM (inst a b m).2)])

def e70_C (xs ys : List Ty) (i : Nat) (m : Mt) : St :=
  ⟨kt [1, 2, 15, 16, 17] [.list (ys.map encTy) none, .func 55 [.ptr (some (0, 0))] [], .list (xs.map encTy) none, .int .i64 xs.length, .int .i64 i], [.box [.map (some 1)], .map (encM m)]⟩
def e70_R : Bool × Mt → AExit × St
  | (true, m) => (.normal, ⟨kt [6] [.junk], [.box [.map (some 1)], .map (encM m)]⟩)
  | (false, m) => (.ret, ⟨kt [6] [.bool false], [.box [.map (some 1)], .map (encM m)]⟩)
theorem eqi70_l0 {L : Lib} (hL : Plain L) (xs ys : List Ty) (hl : xs.length < 2 ^ 30) (hlen : xs.length = ys.length) (hg : ∀ a ∈ xs, ∀ b ∈ ys, InstOk L a b) (hy : ∀ b ∈ ys, TyFit b) :
    ∀ k i (m : Mt), MFit m → i + k = xs.length → loopF L.pure (call L) 2 [1, 2, 15, 16, 17] [6] 0 fn70_l0 (e70_C xs ys i m) =
      some (e70_R (inst.insts (xs.drop i) (ys.drop i) m)) := by
  have hp := hL.pure
  intro k
  induction k with
  | zero =>
    intro i m hm hi
    have hi' : i = xs.length := by omega
    subst hi'
    rw [List.drop_length, hlen, List.drop_length]
    simp only [inst.insts, e70_R]
    refine loopF_exit ?_
    have h0 : ¬ ((xs.length : Int) < xs.length) := by omega
    rw [← hlen]
    unfold fn70_l0 e70_C
    simp -implicitDefEqProofs only [code_ops, code_seq, code_cond, code_exit, ops_cons, ops_nil, aOp, opd, upd_at, kt_cons, stepVal, aBin, aInt, isShift, gcE, gc_mk, gcIds_mk, newIds_nil, newIds_cons, gcMap_at, posOf, ren, renC, renO_box, idsV, idsC, idsO_box, isData_map, isData_junk, List.map_cons, List.map_nil, List.flatMap_cons, List.flatMap_nil, List.length_cons, List.length_nil, List.nil_append, List.append_nil, List.take_succ_cons, List.take_nil, List.not_mem_nil, ↓reduceIte, Bool.false_eq_true, and_true, not_false_eq_true, decide_false, Nat.le_refl, Nat.zero_add, Nat.reduceEqDiff, Nat.reduceAdd, Nat.reduceLT, Nat.reduceLeDiff, roundF_eq, kt_nil, ↓renO_encM, ↓idsO_encM, h0]
  | succ k ih =>
    intro i m hm hi
    have hlt : i < xs.length := by omega
    have hlt' : i < ys.length := by omega
    obtain ⟨h1, h2, h3⟩ := round_facts' encTy xs hl i hlt
    have h4 : (ys.map encTy)[i]? = some (encTy ys[i]) := by simp [hlt']
    have h5 := hg xs[i] (List.getElem_mem hlt) ys[i] (List.getElem_mem hlt') m hm
    have ihn := ih (i + 1) (inst xs[i] ys[i] m).2 (inst_fit _ _ _ (hy _ (List.getElem_mem hlt')) hm) (by omega)
    rw [List.drop_eq_getElem_cons hlt, List.drop_eq_getElem_cons hlt']
    generalize xs[i] = a at *
    generalize ys[i] = b at *
    simp only [inst.insts]
    generalize inst a b m = q at *
    obtain ⟨r, m'⟩ := q
    dsimp only at *
    cases r with
    | true =>
      rw [loopF_next (s1 := e70_C xs ys (i + 1) m'), ihn]
      unfold fn70_l0 e70_C
      simp -implicitDefEqProofs only [code_skip, code_ops, code_seq, code_cond, code_block, ops_cons, ops_nil, aOp, opd, upd_at, upd_none, kt_cons, stepVal, stepHeap, aBin, aInt, aUn, aIndexList, isShift, aStore, readAt, leaf, acells_agg, cellsSet, gc_mk, gcIds_mk, newIds_nil, newIds_cons, gcMap_at, posOf, ren, renC, renO_box, idsV, idsC, idsO_box, wipe_agg, wipe_ptr, wipeC_list, wipeC_int, wipeC_str, isData_list_none, isData_bool, isData_int, isData_str, isData_agg, isData_func, isData_ptr, isData_map, isDataL_nil, isDataL_cons, Option.map_some, Option.getD_some, List.map_cons, List.map_nil, List.flatMap_cons, List.flatMap_nil, List.length_cons, List.length_nil, List.cons_append, List.nil_append, List.append_nil, List.getElem?_cons_zero, List.getElem?_cons_succ, List.set_cons_zero, List.set_cons_succ, List.take_succ_cons, List.take_zero, List.drop_succ_cons, List.drop_zero, List.take_nil, List.drop_nil, List.all_cons, List.all_nil, List.mem_cons, List.not_mem_nil, ↓reduceIte, Bool.and_true, Bool.not_true, Bool.false_eq_true, and_true, and_false, or_true, or_false, not_true_eq_false, not_false_eq_true, decide_true, and_self, Nat.le_refl, Nat.zero_le, reduceCtorEq, Nat.zero_add, Nat.reduceEqDiff, Nat.reduceAdd, Nat.reduceLT, Nat.reduceLeDiff, Int.toNat_natCast, Int.natCast_nonneg, roundF_eq, kt_nil, rCall_eq, rootsOf_eq, grow_eq, subHeap_eq, putBack_eq, pb_nil, pb_cons, backRes_val, encTy_eq, data_Tys, ↓renO_encM, ↓idsO_encM, h1, h2, h3, h4, h5, doCall_p L hp, hp]
    | false =>
      refine loopF_ret ?_
      unfold fn70_l0 e70_C
      simp -implicitDefEqProofs only [code_skip, code_ops, code_seq, code_cond, code_block, code_ret, ops_cons, ops_nil, aOp, opd, upd_at, upd_none, kt_cons, stepVal, stepHeap, aBin, aInt, aUn, aIndexList, isShift, aStore, readAt, leaf, acells_agg, cellsSet, gcE, gc_mk, gcIds_mk, newIds_nil, newIds_cons, gcMap_at, posOf, ren, renC, renO_box, idsV, idsC, idsO_box, wipe_agg, wipe_ptr, wipeC_list, wipeC_int, wipeC_str, isData_list_none, isData_bool, isData_int, isData_str, isData_agg, isData_ptr, isData_map, isDataL_nil, isDataL_cons, Option.map_some, Option.getD_some, List.map_cons, List.map_nil, List.flatMap_cons, List.flatMap_nil, List.length_cons, List.length_nil, List.cons_append, List.nil_append, List.append_nil, List.getElem?_cons_zero, List.getElem?_cons_succ, List.set_cons_zero, List.set_cons_succ, List.take_succ_cons, List.take_zero, List.drop_succ_cons, List.drop_zero, List.take_nil, List.drop_nil, List.all_cons, List.all_nil, List.mem_cons, List.not_mem_nil, ↓reduceIte, Bool.and_true, Bool.not_false, Bool.false_eq_true, and_true, and_false, or_true, or_false, not_true_eq_false, not_false_eq_true, decide_true, and_self, Nat.le_refl, Nat.zero_le, reduceCtorEq, Nat.zero_add, Nat.reduceEqDiff, Nat.reduceAdd, Nat.reduceLT, Nat.reduceLeDiff, Int.toNat_natCast, Int.natCast_nonneg, roundF_eq, kt_nil, rCall_eq, rootsOf_eq, grow_eq, subHeap_eq, putBack_eq, pb_nil, pb_cons, backRes_val, encTy_eq, data_Tys, ↓renO_encM, ↓idsO_encM, h1, h2, h3, h4, h5, doCall_p L hp, hp]

theorem eqi70_ok {L : Lib} (hL : Plain L) (h70 : L.fns 70 = some fn70) (xs ys : List Ty) (hl : xs.length < 2 ^ 30) (hg : ∀ a ∈ xs, ∀ b ∈ ys, InstOk L a b) (hy : ∀ b ∈ ys, TyFit b) (m : Mt) (hm : MFit m) :
    call L 70 [.list (xs.map encTy) none, .list (ys.map encTy) none, .func 55 [.ptr (some (0, 0))] []] [.box [.map (some 1)], .map (encM m)] =
      some (.val (.bool (if xs.length ≠ ys.length then (false, m) else inst.insts xs ys m).1), [.box [.map (some 1)], .map (encM (if xs.length ≠ ys.length then (false, m) else inst.insts xs ys m).2)]) := by
  have hp := hL.pure
  refine call_of (hL.summ 70 (by rw [h70]; exact fun hx => by cases hx)) h70 ?_
  by_cases hlen : xs.length = ys.length
  · have hne : (((xs.length : Int)) != (ys.length : Int)) = false := by rw [hlen]; simp
    have hloop := eqi70_l0 hL xs ys hl hlen hg hy xs.length 0 m hm (by omega)
    rw [List.drop_zero, List.drop_zero] at hloop
    unfold e70_C at hloop
    rw [if_neg (by simpa using hlen)]
    simp only [Int.natCast_zero] at hloop
    unfold fn70
    generalize inst.insts xs ys m = q at hloop ⊢
    obtain ⟨r, m'⟩ := q
    cases r with
    | true =>
      simp only [e70_R] at hloop
      simp -implicitDefEqProofs only [code_skip, code_ops, code_seq, code_cond, code_ret, ops_cons, ops_nil, aOp, opd, upd_at, initTm_at, kt_cons, stepVal, aBin, aLen, aInt, isShift, endFn, aResults, aResult, tupled, code_loopF, gcE, gc_mk, gcIds_mk, newIds_nil, newIds_cons, gcMap_at, posOf, ren, renC, renO_box, idsV, idsC, idsO_box, isData_list_none, isData_bool, isData_int, isData_func, isData_ptr, isData_map, isDataL_nil, isDataL_cons, Option.map_some, Option.getD_some, List.map_cons, List.map_nil, List.flatMap_cons, List.flatMap_nil, List.length_cons, List.length_nil, List.length_map, List.cons_append, List.nil_append, List.append_nil, List.getElem?_cons_zero, List.getElem?_cons_succ, List.take_succ_cons, List.take_nil, List.not_mem_nil, ↓reduceIte, Bool.and_true, Bool.false_eq_true, and_true, not_false_eq_true, Nat.le_refl, reduceCtorEq, Nat.zero_add, Nat.reduceEqDiff, Nat.reduceAdd, Nat.reduceLT, Nat.reduceLeDiff, kt_nil, code_frame_seq, data_Tys, ↓renO_encM, ↓idsO_encM, hne, hloop]
    | false =>
      simp only [e70_R] at hloop
      simp -implicitDefEqProofs only [code_skip, code_ops, code_seq, code_cond, ops_cons, ops_nil, aOp, opd, upd_at, initTm_at, kt_cons, stepVal, aBin, aLen, aInt, isShift, endFn, aResults, aResult, tupled, code_loopF, gcE, gc_mk, gcIds_mk, newIds_nil, newIds_cons, gcMap_at, posOf, ren, renC, renO_box, idsV, idsC, idsO_box, isData_list_none, isData_bool, isData_int, isData_func, isData_ptr, isData_map, isDataL_nil, isDataL_cons, Option.map_some, Option.getD_some, List.map_cons, List.map_nil, List.flatMap_cons, List.flatMap_nil, List.length_cons, List.length_nil, List.length_map, List.cons_append, List.nil_append, List.append_nil, List.getElem?_cons_zero, List.getElem?_cons_succ, List.take_succ_cons, List.take_nil, List.not_mem_nil, ↓reduceIte, Bool.and_true, Bool.false_eq_true, and_true, not_false_eq_true, Nat.le_refl, reduceCtorEq, Nat.zero_add, Nat.reduceEqDiff, Nat.reduceAdd, Nat.reduceLT, Nat.reduceLeDiff, kt_nil, code_frame_seq, data_Tys, ↓renO_encM, ↓idsO_encM, hne, hloop]
  · have hne : (((xs.length : Int)) != (ys.length : Int)) = true := by simp; omega
    rw [if_pos (by simpa using hlen)]
    unfold fn70
    simp -implicitDefEqProofs only [code_ops, code_seq, code_cond, code_ret, ops_cons, ops_nil, aOp, opd, upd_at, initTm_at, kt_cons, stepVal, aBin, aLen, aInt, isShift, endFn, aResults, aResult, tupled, gcE, gc_mk, gcIds_mk, newIds_nil, newIds_cons, gcMap_at, posOf, ren, renC, renO_box, idsV, idsC, idsO_box, isData_bool, isData_map, Option.map_some, Option.getD_some, List.map_cons, List.map_nil, List.flatMap_cons, List.flatMap_nil, List.length_cons, List.length_nil, List.length_map, List.nil_append, List.append_nil, List.getElem?_cons_zero, List.getElem?_cons_succ, List.take_succ_cons, List.take_nil, List.not_mem_nil, ↓reduceIte, Bool.false_eq_true, and_true, not_false_eq_true, Nat.le_refl, reduceCtorEq, Nat.zero_add, Nat.reduceEqDiff, Nat.reduceAdd, Nat.reduceLT, Nat.reduceLeDiff, code_frame_seq, ↓renO_encM, ↓idsO_encM, hne]

theorem inst_ok {L : Lib} (hL : Plain L) (h70 : L.fns 70 = some fn70) (h71 : L.fns 71 = some fn71) (h55 : L.fns 55 = some fn55) (a : Ty) : ∀ (b : Ty), TyFit a → TyFit b → InstOk L a b := by
  have hp := hL.pure
  induction a using Ty.ind with
  | h k n v as ih =>
    intro b ha hb m hm
    have ha' := ha.args
    have hb' := hb.args
    simp only [Ty.args_mk] at ha'
    simp only [Ty.kind_mk, Ty.name_mk, Ty.var_mk, Ty.args_mk, inst_eq]
    have heq := eqi70_ok hL h70 as b.args ha'.1 (fun x hx y hy => ih x hx y (ha'.2 x hx) (hb'.2 y hy)) hb'.2 m hm
    refine call_of (hL.summ 55 (by rw [h55]; exact fun hx => by cases hx)) h55 ?_
    unfold fn55
    by_cases h0 : k = 0
    · subst h0
      simp only [if_true]
      cases hf : findM v m with
      | some was =>
        obtain ⟨j, hj⟩ := find_some 0 hf
        have hs := same_ok hL h71 h70 was (findM_fit hm hf) b
        simp -implicitDefEqProofs only [code_ops, code_draw, code_seq, code_cond, code_ret, ops_cons, ops_nil, aOp, opd, upd_at, upd_none, initTm_at, kt_cons, stepVal, stepHeap, aBin, aInt, isShift, aWanted, aLoad1, aStore, readAt, aField, leaf, acells_agg, cellsSet, endFn, aResults, aResult, tupled, gcE, gc_mk, gcIds_mk, newIds_nil, newIds_cons, gcMap_at, posOf, ren, renC, renO_box, idsV, idsC, idsO_box, draw_eq, opsH_nil, opsH_cons, isLoud, wipe_agg, wipeC_list, wipeC_int, wipeC_str, isData_list_none, isData_bool, isData_int, isData_str, isData_agg, isData_map, isDataL_nil, isDataL_cons, beq_self_eq_true, Option.map_some, Option.getD_some, List.map_cons, List.map_nil, List.flatMap_cons, List.flatMap_nil, List.length_cons, List.length_nil, List.cons_append, List.nil_append, List.append_nil, List.getElem?_cons_zero, List.getElem?_cons_succ, List.set_cons_zero, List.set_cons_succ, List.take_succ_cons, List.take_zero, List.drop_succ_cons, List.drop_zero, List.take_nil, List.drop_nil, List.all_cons, List.all_nil, List.mem_cons, List.not_mem_nil, ↓reduceIte, Bool.and_true, Bool.false_eq_true, and_true, or_false, not_false_eq_true, and_self, Nat.le_refl, reduceCtorEq, Nat.add_zero, Nat.zero_add, Nat.reduceEqDiff, Nat.reduceAdd, Nat.reduceSub, Nat.reduceLT, Nat.reduceLeDiff, checksP_cons, checksP_nil, checkP_eq, drawTo_if, forall_const, forall_eq_or_imp, forall_eq, onlyVal, code_frame_seq, encTy_eq, data_Tys, ↓renO_encM, ↓idsO_encM, aLookup, keyable, mapAt, hj, hs, doCall_p L hp, hp]
      | none =>
        have hj := find_none 0 hf
        have hins := encM_ins v b m
        rw [encTy_eq b] at hins
        simp -implicitDefEqProofs only [code_skip, code_ops, code_draw, code_seq, code_cond, code_ret, ops_cons, ops_nil, aOp, opd, upd_at, upd_none, initTm_at, kt_cons, stepVal, stepHeap, aBin, aInt, isShift, aWanted, aLoad1, aStore, readAt, aField, leaf, acells_agg, cellsSet, endFn, aResults, aResult, tupled, gcE, gc_mk, gcIds_mk, newIds_nil, newIds_cons, gcMap_at, posOf, ren, renC, renO_box, idsV, idsC, idsO_box, draw_eq, opsH_nil, opsH_cons, isLoud, wipe_agg, wipeC_list, wipeC_int, wipeC_str, isData_bool, isData_map, beq_self_eq_true, Option.map_some, Option.getD_some, List.map_cons, List.map_nil, List.flatMap_cons, List.flatMap_nil, List.length_cons, List.length_nil, List.cons_append, List.nil_append, List.append_nil, List.getElem?_cons_zero, List.getElem?_cons_succ, List.set_cons_zero, List.set_cons_succ, List.take_succ_cons, List.take_zero, List.drop_succ_cons, List.drop_zero, List.take_nil, List.drop_nil, List.all_cons, List.all_nil, List.mem_cons, List.not_mem_nil, ↓reduceIte, Bool.and_true, Bool.false_eq_true, and_true, or_false, not_false_eq_true, and_self, Nat.le_refl, reduceCtorEq, Nat.add_zero, Nat.zero_add, Nat.reduceEqDiff, Nat.reduceAdd, Nat.reduceSub, Nat.reduceLT, Nat.reduceLeDiff, checksP_cons, checksP_nil, checkP_eq, drawTo_if, forall_const, forall_eq_or_imp, forall_eq, code_frame_seq, ↓renO_encM, ↓idsO_encM, aLookup, aMapUpdate, keyable, mapAt, hj, hins, doCall_p L hp, hp]
    · have hk0 : (k == 0) = false := by simpa using h0
      rw [if_neg h0]
      cases h1 : (k == b.kind)
      · have h1' : k ≠ b.kind := by simpa using h1
        rw [if_pos h1']
        simp -implicitDefEqProofs only [code_skip, code_ops, code_seq, code_cond, code_ret, ops_cons, ops_cons_g, ops_nil, aOp, opd, upd_at, initTm_at, kt_cons, stepVal, aBin, aInt, isShift, aWanted, aLoad1, aField, acells_agg, endFn, aResults, aResult, tupled, gcE, gc_mk, gcIds_mk, newIds_nil, newIds_cons, gcMap_at, posOf, ren, renC, renO_box, idsV, idsC, idsO_box, isData_bool, isData_map, beqTF, Option.map_some, Option.getD_some, List.map_cons, List.map_nil, List.flatMap_cons, List.flatMap_nil, List.length_cons, List.length_nil, List.cons_append, List.nil_append, List.append_nil, List.getElem?_cons_zero, List.getElem?_cons_succ, List.take_succ_cons, List.take_zero, List.not_mem_nil, ↓reduceIte, Bool.not_false, Bool.false_eq_true, and_true, not_false_eq_true, Nat.add_zero, Nat.zero_add, Nat.reduceEqDiff, Nat.reduceAdd, Nat.reduceLT, Nat.reduceLeDiff, code_frame_seq, ↓renO_encM, ↓idsO_encM, hk0, h1, bne]
      · have h1' : ¬ (k ≠ b.kind) := by simpa using h1
        rw [if_neg h1']
        by_cases h4 : k = 1
        · subst h4
          cases hn : decide (n = b.name)
          · have hn' : n ≠ b.name := by simpa using hn
            rw [if_pos ⟨.inl rfl, hn'⟩]
            simp -implicitDefEqProofs only [code_skip, code_ops, code_seq, code_cond, code_ret, ops_cons, ops_cons_g, ops_nil, aOp, opd, upd_at, initTm_at, kt_cons, stepVal, aBin, aStr, aInt, isShift, aWanted, aLoad1, aField, acells_agg, endFn, aResults, aResult, tupled, gcE, gc_mk, gcIds_mk, newIds_nil, newIds_cons, gcMap_at, posOf, ren, renC, renO_box, idsV, idsC, idsO_box, isData_bool, isData_map, beqTF, beq_self_eq_true, Option.map_some, Option.getD_some, List.map_cons, List.map_nil, List.flatMap_cons, List.flatMap_nil, List.length_cons, List.length_nil, List.cons_append, List.nil_append, List.append_nil, List.getElem?_cons_zero, List.getElem?_cons_succ, List.take_succ_cons, List.take_zero, List.not_mem_nil, ↓reduceIte, Bool.not_true, Bool.not_false, Bool.false_eq_true, and_true, not_false_eq_true, Nat.add_zero, Nat.zero_add, Nat.reduceEqDiff, Nat.reduceAdd, Nat.reduceLT, Nat.reduceLeDiff, code_frame_seq, ↓renO_encM, ↓idsO_encM, hk0, h1, hn, bne]
          · have hn' : n = b.name := by simpa using hn
            rw [if_neg (fun hx => hx.2 hn')]
            simp -implicitDefEqProofs only [code_skip, code_ops, code_seq, code_cond, code_ret, ops_cons, ops_cons_g, ops_nil, aOp, opd, upd_at, initTm_at, kt_cons, stepVal, aBin, aStr, aInt, isShift, aWanted, aLoad1, aField, acells_agg, endFn, aResults, aResult, tupled, gcE, gc_mk, gcIds_mk, newIds_nil, newIds_cons, gcMap_at, posOf, ren, renC, renO_box, idsV, idsC, idsO_box, wipe_list, wipe_func, isData_list_none, isData_bool, isData_func, isData_ptr, isData_map, isDataL_nil, isDataL_cons, beqTF, beq_self_eq_true, Option.map_some, Option.getD_some, Option.getD_none, List.map_cons, List.map_nil, List.flatMap_cons, List.flatMap_nil, List.length_cons, List.length_nil, List.cons_append, List.nil_append, List.append_nil, List.getElem?_nil, List.getElem?_cons_zero, List.getElem?_cons_succ, List.take_succ_cons, List.take_zero, List.all_cons, List.all_nil, List.mem_cons, List.not_mem_nil, ↓reduceIte, Bool.and_true, Bool.and_false, Bool.not_true, Bool.false_eq_true, and_true, and_false, or_true, or_false, not_true_eq_false, not_false_eq_true, decide_true, and_self, Nat.le_refl, Nat.zero_le, reduceCtorEq, Nat.add_zero, Nat.zero_add, Nat.reduceEqDiff, Nat.reduceAdd, Nat.reduceLT, Nat.reduceLeDiff, ne_eq, code_freeze, freezeS_mk, code_frame_seq, rCall_eq, rootsOf_eq, grow_eq, subHeap_eq, putBack_eq, pb_nil, pb_cons, backRes_val, data_Tys, ↓renO_encM, ↓idsO_encM, hk0, h1, hn, bne, heq, doCall_p L hp, hp]
        · have h4' : (k == 1) = false := by simpa using h4
          by_cases h5 : k = 5
          · subst h5
            cases hn : decide (n = b.name)
            · have hn' : n ≠ b.name := by simpa using hn
              rw [if_pos ⟨.inr rfl, hn'⟩]
              simp -implicitDefEqProofs only [code_skip, code_ops, code_seq, code_cond, code_ret, ops_cons, ops_cons_g, ops_nil, aOp, opd, upd_at, initTm_at, kt_cons, stepVal, aBin, aStr, aInt, isShift, aWanted, aLoad1, aField, acells_agg, endFn, aResults, aResult, tupled, gcE, gc_mk, gcIds_mk, newIds_nil, newIds_cons, gcMap_at, posOf, ren, renC, renO_box, idsV, idsC, idsO_box, isData_bool, isData_map, beq_self_eq_true, Option.map_some, Option.getD_some, List.map_cons, List.map_nil, List.flatMap_cons, List.flatMap_nil, List.length_cons, List.length_nil, List.cons_append, List.nil_append, List.append_nil, List.getElem?_cons_zero, List.getElem?_cons_succ, List.take_succ_cons, List.take_zero, List.not_mem_nil, ↓reduceIte, Bool.not_true, Bool.not_false, Bool.false_eq_true, and_true, not_false_eq_true, Nat.add_zero, Nat.zero_add, Nat.reduceEqDiff, Nat.reduceAdd, Nat.reduceLT, Nat.reduceLeDiff, Int.reduceBEq, code_frame_seq, ↓renO_encM, ↓idsO_encM, hk0, h1, hn, bne]
            · have hn' : n = b.name := by simpa using hn
              rw [if_neg (fun hx => hx.2 hn')]
              simp -implicitDefEqProofs only [code_skip, code_ops, code_seq, code_cond, code_ret, ops_cons, ops_cons_g, ops_nil, aOp, opd, upd_at, initTm_at, kt_cons, stepVal, aBin, aStr, aInt, isShift, aWanted, aLoad1, aField, acells_agg, endFn, aResults, aResult, tupled, gcE, gc_mk, gcIds_mk, newIds_nil, newIds_cons, gcMap_at, posOf, ren, renC, renO_box, idsV, idsC, idsO_box, wipe_list, wipe_func, isData_list_none, isData_bool, isData_func, isData_ptr, isData_map, isDataL_nil, isDataL_cons, beq_self_eq_true, Option.map_some, Option.getD_some, Option.getD_none, List.map_cons, List.map_nil, List.flatMap_cons, List.flatMap_nil, List.length_cons, List.length_nil, List.cons_append, List.nil_append, List.append_nil, List.getElem?_nil, List.getElem?_cons_zero, List.getElem?_cons_succ, List.take_succ_cons, List.take_zero, List.all_cons, List.all_nil, List.mem_cons, List.not_mem_nil, ↓reduceIte, Bool.and_true, Bool.and_false, Bool.not_true, Bool.false_eq_true, and_true, and_false, or_true, or_false, not_true_eq_false, not_false_eq_true, decide_true, and_self, Nat.le_refl, Nat.zero_le, reduceCtorEq, Nat.add_zero, Nat.zero_add, Nat.reduceEqDiff, Nat.reduceAdd, Nat.reduceLT, Nat.reduceLeDiff, ne_eq, Int.reduceBEq, code_freeze, freezeS_mk, code_frame_seq, rCall_eq, rootsOf_eq, grow_eq, subHeap_eq, putBack_eq, pb_nil, pb_cons, backRes_val, data_Tys, ↓renO_encM, ↓idsO_encM, hk0, h1, hn, bne, heq, doCall_p L hp, hp]
          · have h5' : (k == 5) = false := by simpa using h5
            rw [if_neg (fun hx => hx.1.elim h4 h5)]
            simp -implicitDefEqProofs only [code_skip, code_ops, code_seq, code_cond, code_ret, ops_cons, ops_cons_g, ops_nil, aOp, opd, upd_at, initTm_at, kt_cons, stepVal, aBin, aInt, isShift, aWanted, aLoad1, aField, acells_agg, endFn, aResults, aResult, tupled, gcE, gc_mk, gcIds_mk, newIds_nil, newIds_cons, gcMap_at, posOf, ren, renC, renO_box, idsV, idsC, idsO_box, wipe_list, wipe_func, isData_list_none, isData_bool, isData_func, isData_ptr, isData_map, isDataL_nil, isDataL_cons, beqFT, beq_self_eq_true, Option.map_some, Option.getD_some, Option.getD_none, List.map_cons, List.map_nil, List.flatMap_cons, List.flatMap_nil, List.length_cons, List.length_nil, List.cons_append, List.nil_append, List.append_nil, List.getElem?_nil, List.getElem?_cons_zero, List.getElem?_cons_succ, List.take_succ_cons, List.take_zero, List.all_cons, List.all_nil, List.mem_cons, List.not_mem_nil, ↓reduceIte, Bool.and_true, Bool.and_false, Bool.not_true, Bool.false_eq_true, and_true, and_false, or_true, or_false, not_true_eq_false, not_false_eq_true, decide_true, and_self, Nat.le_refl, Nat.zero_le, reduceCtorEq, Nat.add_zero, Nat.zero_add, Nat.reduceEqDiff, Nat.reduceAdd, Nat.reduceLT, Nat.reduceLeDiff, ne_eq, code_freeze, freezeS_mk, code_frame_seq, rCall_eq, rootsOf_eq, grow_eq, subHeap_eq, putBack_eq, pb_nil, pb_cons, backRes_val, data_Tys, ↓renO_encM, ↓idsO_encM, hk0, h1, h4', h5', bne, heq, doCall_p L hp, hp]
end Go.Abs
