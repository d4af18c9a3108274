/-
  What the functions of package slices answer over our types. Conditions: none.
-/
import Derived.Test.YtlielgleabghlaaDoorSigE
import Derived.Test.YtlielgleabghlaaDoorC

set_option linter.unusedVariables false
set_option linter.unusedSimpArgs false
set_option maxRecDepth 100000
set_option maxHeartbeats 4000000
namespace Go.Abs

def eqF {α : Type} (p : α → α → Bool) (xs ys : List α) : Bool := xs.length == ys.length && (xs.zip ys).all fun q => p q.1 q.2
def idxF {α : Type} (p : α → Bool) (xs : List α) : Int := match findFrom (fun i a => if p a = true then some i else none) xs 0 with | some i => (i : Nat) | none => -1
theorem findFrom_any {α : Type} (p : α → Bool) : ∀ (xs : List α) (k : Nat), (findFrom (fun i a => if p a = true then some i else none) xs k).isSome = xs.any p
  | [], k => rfl
  | x :: xs, k => by
    rw [findFrom, List.any_cons]
    cases hp : p x
    · simp only [Bool.false_eq_true, if_false, Bool.false_or]
      exact findFrom_any p xs (k + 1)
    · rfl
theorem idxF_any {α : Type} (p : α → Bool) (xs : List α) : decide (0 ≤ idxF p xs) = xs.any p := by
  rw [← findFrom_any p xs 0]
  unfold idxF
  cases findFrom (fun i a => if p a = true then some i else none) xs 0 <;> simp

def bloop {α : Type} (cmp : α → Int) (xs : List α) (i j : Nat) : Nat :=
  if h : i < j then
    match xs[(i + j) / 2]? with
    | some x => if cmp x < 0 then bloop cmp xs ((i + j) / 2 + 1) j else bloop cmp xs i ((i + j) / 2)
    | none => i
  else i
  termination_by j - i
def bfound {α : Type} (cmp : α → Int) (xs : List α) : Bool := match xs[bloop cmp xs 0 xs.length]? with | some x => cmp x == 0 | none => false

theorem wrapU64 {n : Int} (h1 : 0 ≤ n) (h2 : n < 2 ^ 64) : IntKind.u64.wrap n = n := by
  have h : IntKind.u64.wrap n = (if (false && decide (n % 2 ^ 64 ≥ 2 ^ (64 - 1))) = true then n % 2 ^ 64 - 2 ^ 64 else n % 2 ^ 64) := rfl
  rw [h, Bool.false_and, if_neg (by decide)]
  omega
theorem shr_one (n : Nat) : aShift .shr .u64 (n : Int) 1 = some (.int .u64 ((n / 2 : Nat) : Int)) := by
  have : (n : Int).fdiv (2 ^ (min (1 : Int).toNat IntKind.u64.bits)) = ((n / 2 : Nat) : Int) := by
    have : (2 : Int) ^ (min (1 : Int).toNat IntKind.u64.bits) = 2 := by decide
    rw [this]
    rw [Int.fdiv_eq_ediv_of_nonneg _ (by omega)]
    omega
  unfold aShift
  simp only [this]
  rfl

theorem eqf70 {L : Lib} (hL : Plain L) (hf : L.fns 70 = some fn70) (g : Nat) (p : Ty → Ty → Bool) (xs ys : List Ty) (hl : xs.length < 2 ^ 30)
    (hg : ∀ a ∈ xs, ∀ b ∈ ys, ∀ h : Heap, pcall L g [.agg [.int .i64 a.kind, .str a.name, .int .i64 a.var, .list (a.args.map encTy) none], .agg [.int .i64 b.kind, .str b.name, .int .i64 b.var, .list (b.args.map encTy) none]] h = some (.val (.bool (p a b)), h)) (h : Heap) :
    pcall L 70 [.list (xs.map encTy) none, .list (ys.map encTy) none, .func g [] []] h = some (.val (.bool (eqF p xs ys)), h) := by
  have hp := hL.pure
  refine pcall_fn hL hf rfl ?_ h
  unfold eqF
  by_cases hlen : xs.length = ys.length
  · have hne : (((xs.length : Int)) != (ys.length : Int)) = false := by rw [hlen]; simp
    have hlz : (xs.zip ys).length = xs.length := by rw [List.length_zip]; omega
    have hloop := loopF_any (pure := L.pure) (call := call L) (b := 0) (keep := [1, 2, 15, 16, 17]) (fk := [6]) (id := 0) (body := fn70_l0) (xs.zip ys) (fun q => !p q.1 q.2)
      (fun i => ⟨kt [1, 2, 15, 16, 17] [.list (ys.map encTy) none, .func g [] [], .list (xs.map encTy) none, .int .i64 xs.length, .int .i64 i], []⟩) ⟨kt [6] [.junk], []⟩ ⟨kt [6] [.bool false], []⟩
      (by
        intro i hi hq
        have hi' : i < xs.length := by omega
        have h1 : ((i : Int) < xs.length) := by omega
        have h2 : IntKind.i64.wrap ((i : Int) + 1) = ((i + 1 : Nat) : Int) := by rw [wrap64 (by omega) (by omega)]; rfl
        have h3 : (xs.map encTy)[i]? = some (encTy xs[i]) := by simp [hi']
        have h4 : (ys.map encTy)[i]? = some (encTy (ys[i]'(by omega))) := by rw [List.getElem?_map, List.getElem?_eq_getElem (by omega)]; rfl
        rw [List.getElem_zip] at hq
        have h5 := hg xs[i] (List.getElem_mem hi') (ys[i]'(by omega)) (List.getElem_mem _)
        generalize xs[i] = a at *
        generalize (ys[i]'(by omega)) = c at *
        unfold fn70_l0
        simp -implicitDefEqProofs only [code_skip, code_ops, code_seq, code_cond, code_block, ops_cons, ops_nil, aOp, opd, upd_at, upd_none, kt_cons, stepVal, stepHeap, aBin, aInt, aUn, aIndexList, isShift, aStore, readAt, leaf, acells_agg, cellsSet, gc_mk, gcIds_mk, newIds_nil, gcMap_at, posOf, ren, renC, idsV, idsC, wipe_agg, wipeC_list, wipeC_int, wipeC_str, isData_list_none, isData_int, isData_str, isData_agg, isData_func, isDataL_nil, isDataL_cons, Option.map_some, List.map_cons, List.map_nil, List.flatMap_cons, List.flatMap_nil, List.length_cons, List.length_nil, List.cons_append, List.nil_append, List.append_nil, List.getElem?_cons_zero, List.getElem?_cons_succ, List.set_cons_zero, List.set_cons_succ, List.take_succ_cons, List.take_zero, List.drop_succ_cons, List.drop_zero, List.take_nil, List.drop_nil, List.all_cons, List.all_nil, ↓reduceIte, Bool.and_true, Bool.false_eq_true, decide_true, and_self, Nat.le_refl, Nat.zero_le, Nat.zero_add, Nat.reduceEqDiff, Nat.reduceAdd, Int.toNat_natCast, Int.natCast_nonneg, roundF_eq, kt_nil, encTy_eq, data_Tys, h1, h2, h3, h4, h5, hq, doCall_p L hp, hp, reduceCtorEq])
      (by
        intro i hi hq
        have hi' : i < xs.length := by omega
        have h1 : ((i : Int) < xs.length) := by omega
        have h2 : IntKind.i64.wrap ((i : Int) + 1) = ((i + 1 : Nat) : Int) := by rw [wrap64 (by omega) (by omega)]; rfl
        have h3 : (xs.map encTy)[i]? = some (encTy xs[i]) := by simp [hi']
        have h4 : (ys.map encTy)[i]? = some (encTy (ys[i]'(by omega))) := by rw [List.getElem?_map, List.getElem?_eq_getElem (by omega)]; rfl
        rw [List.getElem_zip] at hq
        have h5 := hg xs[i] (List.getElem_mem hi') (ys[i]'(by omega)) (List.getElem_mem _)
        generalize xs[i] = a at *
        generalize (ys[i]'(by omega)) = c at *
        unfold fn70_l0
        simp -implicitDefEqProofs only [code_skip, code_ops, code_seq, code_cond, code_block, code_ret, ops_cons, ops_nil, aOp, opd, upd_at, upd_none, kt_cons, stepVal, stepHeap, aBin, aInt, aUn, aIndexList, isShift, aStore, readAt, leaf, acells_agg, cellsSet, gcE, gc_mk, gcIds_mk, newIds_nil, gcMap_at, posOf, ren, renC, idsV, idsC, wipe_agg, wipeC_list, wipeC_int, wipeC_str, isData_list_none, isData_bool, isData_int, isData_str, isData_agg, isDataL_nil, isDataL_cons, Option.map_some, List.map_cons, List.map_nil, List.flatMap_cons, List.flatMap_nil, List.length_cons, List.length_nil, List.cons_append, List.nil_append, List.append_nil, List.getElem?_cons_zero, List.getElem?_cons_succ, List.set_cons_zero, List.set_cons_succ, List.take_succ_cons, List.take_zero, List.drop_succ_cons, List.drop_zero, List.take_nil, List.drop_nil, List.all_cons, List.all_nil, ↓reduceIte, Bool.and_true, Bool.false_eq_true, decide_true, and_self, Nat.le_refl, Nat.zero_le, Nat.zero_add, Nat.reduceEqDiff, Nat.reduceAdd, Int.toNat_natCast, Int.natCast_nonneg, roundF_eq, kt_nil, encTy_eq, data_Tys, h1, h2, h3, h4, h5, hq, doCall_p L hp, hp, reduceCtorEq])
      (by
        have h0 : ¬ ((xs.length : Int) < xs.length) := by omega
        rw [hlz]
        unfold fn70_l0
        simp -implicitDefEqProofs only [code_ops, code_seq, code_cond, code_exit, ops_cons, ops_nil, aOp, opd, upd_at, kt_cons, stepVal, aBin, aInt, isShift, gcE, gc_mk, gcIds_mk, newIds_nil, gcMap_at, posOf, ren, renC, renO_gone, idsV, idsC, isData_junk, Option.getD_none, List.map_cons, List.map_nil, List.flatMap_cons, List.flatMap_nil, List.length_nil, List.append_nil, List.getElem?_nil, List.take_nil, ↓reduceIte, Bool.false_eq_true, decide_false, Nat.le_refl, Nat.reduceEqDiff, roundF_eq, kt_nil, h0, doCall_p L hp, hp, reduceCtorEq])
    have hall : (xs.zip ys).any (fun q => !p q.1 q.2) = !(xs.zip ys).all (fun q => p q.1 q.2) := by rw [List.any_eq_not_all_not]; simp
    rw [hall] at hloop
    simp only [Int.natCast_zero] at hloop
    have hb : (xs.length == ys.length) = true := by simpa using hlen
    unfold fn70
    generalize (xs.zip ys).all (fun q => p q.1 q.2) = r at hloop ⊢
    cases r
    · simp only [Bool.not_false, if_true] at hloop
      simp -implicitDefEqProofs only [code_skip, code_ops, code_seq, code_cond, ops_cons, ops_nil, aOp, opd, upd_at, initTm_at, kt_cons, stepVal, aBin, aLen, aInt, isShift, endFn, aResults, aResult, tupled, code_loopF, gcE, gc_mk, gcIds_mk, newIds_nil, gcMap_at, posOf, ren, renC, renO_gone, idsV, idsC, wipeR_bool, isData_list_none, isData_bool, isData_int, isData_func, isDataL_nil, Option.map_some, Option.getD_some, Option.getD_none, List.map_cons, List.map_nil, List.flatMap_cons, List.flatMap_nil, List.length_nil, List.length_map, List.append_nil, List.getElem?_nil, List.getElem?_cons_zero, List.getElem?_cons_succ, List.take_nil, ↓reduceIte, Bool.and_true, Bool.and_false, Bool.false_eq_true, Nat.le_refl, reduceCtorEq, Nat.reduceEqDiff, kt_nil, code_frame_seq, data_Tys, outOf_val, hne, hloop, hb]
    · simp only [Bool.not_true, Bool.false_eq_true, if_false] at hloop
      simp -implicitDefEqProofs only [code_skip, code_ops, code_seq, code_cond, code_ret, ops_cons, ops_nil, aOp, opd, upd_at, initTm_at, kt_cons, stepVal, aBin, aLen, aInt, isShift, endFn, aResults, aResult, tupled, code_loopF, gcE, gc_mk, gcIds_mk, newIds_nil, gcMap_at, posOf, ren, renC, renO_gone, idsV, idsC, wipeR_bool, isData_list_none, isData_bool, isData_int, isData_func, isDataL_nil, Option.map_some, Option.getD_some, Option.getD_none, List.map_cons, List.map_nil, List.flatMap_cons, List.flatMap_nil, List.length_nil, List.length_map, List.append_nil, List.getElem?_nil, List.getElem?_cons_zero, List.getElem?_cons_succ, List.take_nil, ↓reduceIte, Bool.and_true, Bool.false_eq_true, Nat.le_refl, reduceCtorEq, Nat.reduceEqDiff, kt_nil, code_frame_seq, data_Tys, outOf_val, hne, hloop, hb]
  · have hne : (((xs.length : Int)) != (ys.length : Int)) = true := by simp; omega
    have hb : (xs.length == ys.length) = false := by simpa using hlen
    unfold fn70
    simp -implicitDefEqProofs only [code_ops, code_seq, code_cond, code_ret, ops_cons, ops_nil, aOp, opd, upd_at, initTm_at, kt_cons, stepVal, aBin, aLen, aInt, isShift, endFn, aResults, aResult, tupled, gcE, gc_mk, gcIds_mk, newIds_nil, gcMap_at, posOf, ren, renC, renO_gone, idsV, idsC, wipeR_bool, isData_bool, Option.map_some, Option.getD_some, Option.getD_none, List.map_cons, List.map_nil, List.flatMap_cons, List.flatMap_nil, List.length_nil, List.length_map, List.append_nil, List.getElem?_nil, List.getElem?_cons_zero, List.getElem?_cons_succ, List.take_nil, ↓reduceIte, Bool.false_and, Bool.false_eq_true, Nat.le_refl, reduceCtorEq, Nat.reduceEqDiff, code_frame_seq, outOf_val, hne, hb, Bool.false_and]

theorem eqf51 {L : Lib} (hL : Plain L) (hf : L.fns 51 = some fn51) (g : Nat) (p : ConSig → ConSig → Bool) (xs ys : List ConSig) (hl : xs.length < 2 ^ 30)
    (hg : ∀ a ∈ xs, ∀ b ∈ ys, ∀ h : Heap, pcall L g [.agg [.str a.name, .list (a.args.map encTy) none], .agg [.str b.name, .list (b.args.map encTy) none]] h = some (.val (.bool (p a b)), h)) (h : Heap) :
    pcall L 51 [.list (xs.map encCon) none, .list (ys.map encCon) none, .func g [] []] h = some (.val (.bool (eqF p xs ys)), h) := by
  have hp := hL.pure
  refine pcall_fn hL hf rfl ?_ h
  unfold eqF
  by_cases hlen : xs.length = ys.length
  · have hne : (((xs.length : Int)) != (ys.length : Int)) = false := by rw [hlen]; simp
    have hlz : (xs.zip ys).length = xs.length := by rw [List.length_zip]; omega
    have hloop := loopF_any (pure := L.pure) (call := call L) (b := 0) (keep := [1, 2, 15, 16, 17]) (fk := [6]) (id := 0) (body := fn51_l0) (xs.zip ys) (fun q => !p q.1 q.2)
      (fun i => ⟨kt [1, 2, 15, 16, 17] [.list (ys.map encCon) none, .func g [] [], .list (xs.map encCon) none, .int .i64 xs.length, .int .i64 i], []⟩) ⟨kt [6] [.junk], []⟩ ⟨kt [6] [.bool false], []⟩
      (by
        intro i hi hq
        have hi' : i < xs.length := by omega
        have h1 : ((i : Int) < xs.length) := by omega
        have h2 : IntKind.i64.wrap ((i : Int) + 1) = ((i + 1 : Nat) : Int) := by rw [wrap64 (by omega) (by omega)]; rfl
        have h3 : (xs.map encCon)[i]? = some (encCon xs[i]) := by simp [hi']
        have h4 : (ys.map encCon)[i]? = some (encCon (ys[i]'(by omega))) := by rw [List.getElem?_map, List.getElem?_eq_getElem (by omega)]; rfl
        rw [List.getElem_zip] at hq
        have h5 := hg xs[i] (List.getElem_mem hi') (ys[i]'(by omega)) (List.getElem_mem _)
        generalize xs[i] = a at *
        generalize (ys[i]'(by omega)) = c at *
        unfold fn51_l0
        simp -implicitDefEqProofs only [code_skip, code_ops, code_seq, code_cond, code_block, ops_cons, ops_nil, aOp, opd, upd_at, upd_none, kt_cons, stepVal, stepHeap, aBin, aInt, aUn, aIndexList, isShift, aStore, readAt, leaf, acells_agg, cellsSet, gc_mk, gcIds_mk, newIds_nil, gcMap_at, posOf, ren, renC, idsV, idsC, wipe_agg, wipeC_list, wipeC_str, isData_list_none, isData_int, isData_str, isData_agg, isData_func, isDataL_nil, isDataL_cons, Option.map_some, List.map_cons, List.map_nil, List.flatMap_cons, List.flatMap_nil, List.length_cons, List.length_nil, List.cons_append, List.nil_append, List.append_nil, List.getElem?_cons_zero, List.getElem?_cons_succ, List.set_cons_zero, List.set_cons_succ, List.take_succ_cons, List.take_zero, List.drop_succ_cons, List.drop_zero, List.take_nil, List.drop_nil, List.all_cons, List.all_nil, ↓reduceIte, Bool.and_true, Bool.false_eq_true, decide_true, and_self, Nat.le_refl, Nat.zero_le, Nat.zero_add, Nat.reduceEqDiff, Nat.reduceAdd, Int.toNat_natCast, Int.natCast_nonneg, roundF_eq, kt_nil, encCon_eq, data_Tys, data_Cons, h1, h2, h3, h4, h5, hq, doCall_p L hp, hp, reduceCtorEq])
      (by
        intro i hi hq
        have hi' : i < xs.length := by omega
        have h1 : ((i : Int) < xs.length) := by omega
        have h2 : IntKind.i64.wrap ((i : Int) + 1) = ((i + 1 : Nat) : Int) := by rw [wrap64 (by omega) (by omega)]; rfl
        have h3 : (xs.map encCon)[i]? = some (encCon xs[i]) := by simp [hi']
        have h4 : (ys.map encCon)[i]? = some (encCon (ys[i]'(by omega))) := by rw [List.getElem?_map, List.getElem?_eq_getElem (by omega)]; rfl
        rw [List.getElem_zip] at hq
        have h5 := hg xs[i] (List.getElem_mem hi') (ys[i]'(by omega)) (List.getElem_mem _)
        generalize xs[i] = a at *
        generalize (ys[i]'(by omega)) = c at *
        unfold fn51_l0
        simp -implicitDefEqProofs only [code_skip, code_ops, code_seq, code_cond, code_block, code_ret, ops_cons, ops_nil, aOp, opd, upd_at, upd_none, kt_cons, stepVal, stepHeap, aBin, aInt, aUn, aIndexList, isShift, aStore, readAt, leaf, acells_agg, cellsSet, gcE, gc_mk, gcIds_mk, newIds_nil, gcMap_at, posOf, ren, renC, idsV, idsC, wipe_agg, wipeC_list, wipeC_str, isData_list_none, isData_bool, isData_str, isData_agg, isDataL_nil, isDataL_cons, Option.map_some, List.map_cons, List.map_nil, List.flatMap_cons, List.flatMap_nil, List.length_cons, List.length_nil, List.cons_append, List.nil_append, List.append_nil, List.getElem?_cons_zero, List.getElem?_cons_succ, List.set_cons_zero, List.set_cons_succ, List.take_succ_cons, List.take_zero, List.drop_succ_cons, List.drop_zero, List.take_nil, List.drop_nil, List.all_cons, List.all_nil, ↓reduceIte, Bool.and_true, Bool.false_eq_true, decide_true, and_self, Nat.le_refl, Nat.zero_le, Nat.zero_add, Nat.reduceEqDiff, Nat.reduceAdd, Int.toNat_natCast, Int.natCast_nonneg, roundF_eq, kt_nil, encCon_eq, data_Tys, h1, h2, h3, h4, h5, hq, doCall_p L hp, hp, reduceCtorEq])
      (by
        have h0 : ¬ ((xs.length : Int) < xs.length) := by omega
        rw [hlz]
        unfold fn51_l0
        simp -implicitDefEqProofs only [code_ops, code_seq, code_cond, code_exit, ops_cons, ops_nil, aOp, opd, upd_at, kt_cons, stepVal, aBin, aInt, isShift, gcE, gc_mk, gcIds_mk, newIds_nil, gcMap_at, posOf, ren, renC, renO_gone, idsV, idsC, isData_junk, Option.getD_none, List.map_cons, List.map_nil, List.flatMap_cons, List.flatMap_nil, List.length_nil, List.append_nil, List.getElem?_nil, List.take_nil, ↓reduceIte, Bool.false_eq_true, decide_false, Nat.le_refl, Nat.reduceEqDiff, roundF_eq, kt_nil, h0, doCall_p L hp, hp, reduceCtorEq])
    have hall : (xs.zip ys).any (fun q => !p q.1 q.2) = !(xs.zip ys).all (fun q => p q.1 q.2) := by rw [List.any_eq_not_all_not]; simp
    rw [hall] at hloop
    simp only [Int.natCast_zero] at hloop
    have hb : (xs.length == ys.length) = true := by simpa using hlen
    unfold fn51
    generalize (xs.zip ys).all (fun q => p q.1 q.2) = r at hloop ⊢
    cases r
    · simp only [Bool.not_false, if_true] at hloop
      simp -implicitDefEqProofs only [code_skip, code_ops, code_seq, code_cond, ops_cons, ops_nil, aOp, opd, upd_at, initTm_at, kt_cons, stepVal, aBin, aLen, aInt, isShift, endFn, aResults, aResult, tupled, code_loopF, gc_mk, gcIds_mk, newIds_nil, gcMap_at, posOf, ren, renC, renO_gone, idsV, idsC, wipeR_bool, isData_list_none, isData_int, isData_func, isDataL_nil, Option.getD_some, Option.getD_none, List.map_cons, List.map_nil, List.flatMap_cons, List.flatMap_nil, List.length_nil, List.length_map, List.append_nil, List.getElem?_nil, List.getElem?_cons_zero, List.getElem?_cons_succ, List.take_nil, ↓reduceIte, Bool.and_true, Bool.and_false, Bool.false_eq_true, Nat.le_refl, reduceCtorEq, Nat.reduceEqDiff, data_Cons, outOf_val, hne, hloop, hb]
    · simp only [Bool.not_true, Bool.false_eq_true, if_false] at hloop
      simp -implicitDefEqProofs only [code_skip, code_ops, code_seq, code_cond, code_ret, ops_cons, ops_nil, aOp, opd, upd_at, initTm_at, stepVal, aBin, aLen, aInt, isShift, endFn, aResults, aResult, tupled, code_loopF, gc_mk, gcIds_mk, newIds_nil, gcMap_at, posOf, ren, renC, renO_gone, idsV, idsC, wipeR_bool, isData_list_none, isData_int, isData_func, isDataL_nil, Option.getD_some, Option.getD_none, List.map_cons, List.map_nil, List.flatMap_cons, List.flatMap_nil, List.length_nil, List.length_map, List.append_nil, List.getElem?_nil, List.getElem?_cons_zero, List.getElem?_cons_succ, List.take_nil, ↓reduceIte, Bool.and_true, Bool.false_eq_true, Nat.le_refl, reduceCtorEq, Nat.reduceEqDiff, data_Cons, outOf_val, hne, hloop, hb]
  · have hne : (((xs.length : Int)) != (ys.length : Int)) = true := by simp; omega
    have hb : (xs.length == ys.length) = false := by simpa using hlen
    unfold fn51
    simp -implicitDefEqProofs only [code_ops, code_seq, code_cond, code_ret, ops_cons, ops_nil, aOp, opd, upd_at, initTm_at, stepVal, aBin, aLen, aInt, isShift, endFn, aResults, aResult, tupled, wipeR_bool, Option.getD_some, List.length_map, List.getElem?_cons_zero, List.getElem?_cons_succ, ↓reduceIte, Bool.false_and, Bool.false_eq_true, reduceCtorEq, Nat.reduceEqDiff, outOf_val, hne, hb, Bool.false_and]

theorem idx62 {L : Lib} (hL : Plain L) (hf : L.fns 62 = some fn62) (f : AVal) (hd : isData f = true) (hk : ∃ g a c, f = .func g a c) (p : DataSig → Bool) (xs : List DataSig) (hl : xs.length < 2 ^ 30)
    (hg : ∀ a ∈ xs, ∀ h : Heap, (match f with | .func g u c => doCall L.pure (call L) g (u ++ .agg [.str a.name, .int .i64 a.params, .list (a.cons.map encCon) none] :: c) h | _ => none) = some (.val (.bool (p a)), h)) (h : Heap) :
    pcall L 62 [.list (xs.map encData) none, f] h = some (.val (.int .i64 (idxF p xs)), h) := by
  have hp := hL.pure
  obtain ⟨g, u, c, rfl⟩ := hk
  dsimp only at hg
  refine pcall_fn hL hf rfl ?_ h
  have hloop := loopF_find (pure := L.pure) (call := call L) (b := 0) (keep := [0, 1, 7, 8]) (fk := [4]) (id := 0) (body := fn62_l0) xs (fun i a => if p a = true then some i else none)
    (fun i => ⟨kt [0, 1, 7, 8] [.list (xs.map encData) none, .func g u c, .int .i64 xs.length, .int .i64 i], []⟩) ⟨kt [4] [.junk], []⟩ (fun i => ⟨kt [4] [.int .i64 i], []⟩)
    (by
      intro i hi hq
      have h1 : ((i : Int) < xs.length) := by omega
      have h2 : IntKind.i64.wrap ((i : Int) + 1) = ((i + 1 : Nat) : Int) := by rw [wrap64 (by omega) (by omega)]; rfl
      have h3 : (xs.map encData)[i]? = some (encData xs[i]) := by simp [hi]
      have h5 := hg xs[i] (List.getElem_mem hi)
      have h6 : p xs[i] = false := by cases hx : p xs[i] <;> simp [hx] at hq ⊢
      generalize xs[i] = a at *
      unfold fn62_l0
      simp -implicitDefEqProofs only [code_skip, code_ops, code_seq, code_cond, code_block, ops_cons, ops_nil, aOp, opd, upd_at, kt_cons, stepVal, aBin, aInt, aIndexList, isShift, readAt, acells_agg, gc_mk, gcIds_mk, newIds_nil, gcMap_at, posOf, ren, renC, renO_gone, idsV, idsC, isData_list_none, isData_int, Option.map_some, Option.getD_none, List.map_cons, List.map_nil, List.flatMap_cons, List.flatMap_nil, List.length_cons, List.length_nil, List.cons_append, List.nil_append, List.append_nil, List.append_assoc, List.getElem?_nil, List.take_succ_cons, List.drop_zero, List.take_nil, ↓reduceIte, Bool.false_eq_true, decide_true, Nat.le_refl, reduceCtorEq, Nat.zero_add, Nat.reduceEqDiff, Nat.reduceAdd, Int.toNat_natCast, Int.natCast_nonneg, roundF_eq, kt_nil, encData_eq, data_Datas, hd, h1, h2, h3, h5, h6, reduceCtorEq])
    (by
      intro i hi r hq
      have h1 : ((i : Int) < xs.length) := by omega
      have h3 : (xs.map encData)[i]? = some (encData xs[i]) := by simp [hi]
      have h5 := hg xs[i] (List.getElem_mem hi)
      have h6 : p xs[i] = true := by cases hx : p xs[i] <;> simp [hx] at hq ⊢
      have h7 : i = r := by simpa [h6] using hq
      subst h7
      generalize xs[i] = a at *
      unfold fn62_l0
      simp -implicitDefEqProofs only [code_skip, code_ops, code_seq, code_cond, code_block, code_ret, ops_cons, ops_nil, aOp, opd, upd_at, kt_cons, stepVal, aBin, aInt, aIndexList, isShift, readAt, acells_agg, gcE, gc_mk, gcIds_mk, newIds_nil, gcMap_at, posOf, ren, renC, renO_gone, idsV, idsC, isData_int, Option.map_some, Option.getD_none, List.map_cons, List.map_nil, List.flatMap_cons, List.flatMap_nil, List.length_cons, List.length_nil, List.cons_append, List.nil_append, List.append_nil, List.append_assoc, List.getElem?_nil, List.take_succ_cons, List.drop_zero, List.take_nil, ↓reduceIte, Bool.false_eq_true, decide_true, Nat.le_refl, reduceCtorEq, Nat.zero_add, Nat.reduceEqDiff, Nat.reduceAdd, Int.toNat_natCast, Int.natCast_nonneg, roundF_eq, kt_nil, encData_eq, hd, h1, h3, h5, h6, reduceCtorEq])
    (by
      have h0 : ¬ ((xs.length : Int) < xs.length) := by omega
      unfold fn62_l0
      simp -implicitDefEqProofs only [code_ops, code_seq, code_cond, code_exit, ops_cons, ops_nil, aOp, opd, upd_at, kt_cons, stepVal, aBin, aInt, isShift, gcE, gc_mk, gcIds_mk, newIds_nil, gcMap_at, posOf, ren, renC, renO_gone, idsV, idsC, isData_junk, Option.getD_none, List.map_cons, List.map_nil, List.flatMap_cons, List.flatMap_nil, List.length_nil, List.append_nil, List.getElem?_nil, List.take_nil, ↓reduceIte, Bool.false_eq_true, decide_false, Nat.le_refl, reduceCtorEq, Nat.reduceEqDiff, roundF_eq, kt_nil, hd, h0, reduceCtorEq])
  simp only [Int.natCast_zero] at hloop
  unfold fn62 idxF
  cases hq : findFrom (fun i a => if p a = true then some i else none) xs 0 <;> simp only [hq, fromFind] at hloop <;> simp -implicitDefEqProofs only [code_ops, code_seq, code_ret, ops_cons, ops_nil, aOp, opd, upd_at, initTm_at, kt_cons, stepVal, aLen, endFn, aResults, aResult, tupled, code_loopF, gc_mk, gcIds_mk, newIds_nil, gcMap_at, posOf, ren, renC, renO_gone, idsV, idsC, wipeR_int, isData_list_none, isData_int, Option.getD_some, Option.getD_none, List.map_cons, List.map_nil, List.flatMap_cons, List.flatMap_nil, List.length_nil, List.length_map, List.append_nil, List.getElem?_nil, List.getElem?_cons_zero, List.getElem?_cons_succ, List.take_nil, ↓reduceIte, Nat.le_refl, reduceCtorEq, Nat.reduceEqDiff, Int.reduceNeg, data_Datas, outOf_val, hd, hloop, hq]

theorem con40 {L : Lib} (hL : Plain L) (hf : L.fns 40 = some fn40) (hfi : L.fns 62 = some fn62) (f : AVal) (hd : isData f = true) (hk : ∃ g a c, f = .func g a c) (p : DataSig → Bool) (xs : List DataSig) (hl : xs.length < 2 ^ 30)
    (hg : ∀ a ∈ xs, ∀ h : Heap, (match f with | .func g u c => doCall L.pure (call L) g (u ++ .agg [.str a.name, .int .i64 a.params, .list (a.cons.map encCon) none] :: c) h | _ => none) = some (.val (.bool (p a)), h)) (h : Heap) :
    pcall L 40 [.list (xs.map encData) none, f] h = some (.val (.bool (xs.any p)), h) := by
  have hp := hL.pure
  have hi := idx62 hL hfi f hd hk p xs hl hg
  obtain ⟨g, u, c, rfl⟩ := hk
  refine pcall_fn hL hf rfl ?_ h
  have ha := idxF_any p xs
  unfold fn40
  cases hq : xs.any p <;> rw [hq] at ha <;> simp -implicitDefEqProofs only [code_ops, code_seq, code_ret, ops_cons, ops_nil, aOp, opd, upd_at, initTm_at, stepVal, aBin, aInt, isShift, endFn, aResults, aResult, tupled, wipe_list, wipeR_bool, wipe_func, isData_list_none, isDataL_nil, isDataL_cons, Option.getD_some, List.map_cons, List.map_nil, List.nil_append, List.append_nil, List.getElem?_cons_zero, List.getElem?_cons_succ, ↓reduceIte, Bool.and_true, Bool.false_eq_true, reduceCtorEq, Nat.reduceEqDiff, ge_iff_le, data_Datas, outOf_val, hd, hi, doCall_p L hp, hp, ha]

theorem idx63 {L : Lib} (hL : Plain L) (hf : L.fns 63 = some fn63) (f : AVal) (hd : isData f = true) (hk : ∃ g a c, f = .func g a c) (p : Ty → Bool) (xs : List Ty) (hl : xs.length < 2 ^ 30)
    (hg : ∀ a ∈ xs, ∀ h : Heap, (match f with | .func g u c => doCall L.pure (call L) g (u ++ .agg [.int .i64 a.kind, .str a.name, .int .i64 a.var, .list (a.args.map encTy) none] :: c) h | _ => none) = some (.val (.bool (p a)), h)) (h : Heap) :
    pcall L 63 [.list (xs.map encTy) none, f] h = some (.val (.int .i64 (idxF p xs)), h) := by
  have hp := hL.pure
  obtain ⟨g, u, c, rfl⟩ := hk
  dsimp only at hg
  refine pcall_fn hL hf rfl ?_ h
  have hloop := loopF_find (pure := L.pure) (call := call L) (b := 0) (keep := [0, 1, 7, 8]) (fk := [4]) (id := 0) (body := fn63_l0) xs (fun i a => if p a = true then some i else none)
    (fun i => ⟨kt [0, 1, 7, 8] [.list (xs.map encTy) none, .func g u c, .int .i64 xs.length, .int .i64 i], []⟩) ⟨kt [4] [.junk], []⟩ (fun i => ⟨kt [4] [.int .i64 i], []⟩)
    (by
      intro i hi hq
      have h1 : ((i : Int) < xs.length) := by omega
      have h2 : IntKind.i64.wrap ((i : Int) + 1) = ((i + 1 : Nat) : Int) := by rw [wrap64 (by omega) (by omega)]; rfl
      have h3 : (xs.map encTy)[i]? = some (encTy xs[i]) := by simp [hi]
      have h5 := hg xs[i] (List.getElem_mem hi)
      have h6 : p xs[i] = false := by cases hx : p xs[i] <;> simp [hx] at hq ⊢
      generalize xs[i] = a at *
      unfold fn63_l0
      simp -implicitDefEqProofs only [code_skip, code_ops, code_seq, code_cond, code_block, ops_cons, ops_nil, aOp, opd, upd_at, kt_cons, stepVal, aBin, aInt, aIndexList, isShift, readAt, acells_agg, gc_mk, gcIds_mk, newIds_nil, gcMap_at, posOf, ren, renC, renO_gone, idsV, idsC, isData_list_none, isData_int, Option.map_some, Option.getD_none, List.map_cons, List.map_nil, List.flatMap_cons, List.flatMap_nil, List.length_cons, List.length_nil, List.cons_append, List.nil_append, List.append_nil, List.append_assoc, List.getElem?_nil, List.take_succ_cons, List.drop_zero, List.take_nil, ↓reduceIte, Bool.false_eq_true, decide_true, Nat.le_refl, reduceCtorEq, Nat.zero_add, Nat.reduceEqDiff, Nat.reduceAdd, Int.toNat_natCast, Int.natCast_nonneg, roundF_eq, kt_nil, encTy_eq, data_Tys, hd, h1, h2, h3, h5, h6, reduceCtorEq])
    (by
      intro i hi r hq
      have h1 : ((i : Int) < xs.length) := by omega
      have h3 : (xs.map encTy)[i]? = some (encTy xs[i]) := by simp [hi]
      have h5 := hg xs[i] (List.getElem_mem hi)
      have h6 : p xs[i] = true := by cases hx : p xs[i] <;> simp [hx] at hq ⊢
      have h7 : i = r := by simpa [h6] using hq
      subst h7
      generalize xs[i] = a at *
      unfold fn63_l0
      simp -implicitDefEqProofs only [code_skip, code_ops, code_seq, code_cond, code_block, code_ret, ops_cons, ops_nil, aOp, opd, upd_at, kt_cons, stepVal, aBin, aInt, aIndexList, isShift, readAt, acells_agg, gcE, gc_mk, gcIds_mk, newIds_nil, gcMap_at, posOf, ren, renC, renO_gone, idsV, idsC, isData_int, Option.map_some, Option.getD_none, List.map_cons, List.map_nil, List.flatMap_cons, List.flatMap_nil, List.length_cons, List.length_nil, List.cons_append, List.nil_append, List.append_nil, List.append_assoc, List.getElem?_nil, List.take_succ_cons, List.drop_zero, List.take_nil, ↓reduceIte, Bool.false_eq_true, decide_true, Nat.le_refl, reduceCtorEq, Nat.zero_add, Nat.reduceEqDiff, Nat.reduceAdd, Int.toNat_natCast, Int.natCast_nonneg, roundF_eq, kt_nil, encTy_eq, hd, h1, h3, h5, h6, reduceCtorEq])
    (by
      have h0 : ¬ ((xs.length : Int) < xs.length) := by omega
      unfold fn63_l0
      simp -implicitDefEqProofs only [code_ops, code_seq, code_cond, code_exit, ops_cons, ops_nil, aOp, opd, upd_at, kt_cons, stepVal, aBin, aInt, isShift, gcE, gc_mk, gcIds_mk, newIds_nil, gcMap_at, posOf, ren, renC, renO_gone, idsV, idsC, isData_junk, Option.getD_none, List.map_cons, List.map_nil, List.flatMap_cons, List.flatMap_nil, List.length_nil, List.append_nil, List.getElem?_nil, List.take_nil, ↓reduceIte, Bool.false_eq_true, decide_false, Nat.le_refl, reduceCtorEq, Nat.reduceEqDiff, roundF_eq, kt_nil, hd, h0, reduceCtorEq])
  simp only [Int.natCast_zero] at hloop
  unfold fn63 idxF
  cases hq : findFrom (fun i a => if p a = true then some i else none) xs 0 <;> simp only [hq, fromFind] at hloop <;> simp -implicitDefEqProofs only [code_ops, code_seq, code_ret, ops_cons, ops_nil, aOp, opd, upd_at, initTm_at, kt_cons, stepVal, aLen, endFn, aResults, aResult, tupled, code_loopF, gc_mk, gcIds_mk, newIds_nil, gcMap_at, posOf, ren, renC, renO_gone, idsV, idsC, wipeR_int, isData_list_none, isData_int, Option.getD_some, Option.getD_none, List.map_cons, List.map_nil, List.flatMap_cons, List.flatMap_nil, List.length_nil, List.length_map, List.append_nil, List.getElem?_nil, List.getElem?_cons_zero, List.getElem?_cons_succ, List.take_nil, ↓reduceIte, Nat.le_refl, reduceCtorEq, Nat.reduceEqDiff, Int.reduceNeg, data_Tys, outOf_val, hd, hloop, hq]

theorem con42 {L : Lib} (hL : Plain L) (hf : L.fns 42 = some fn42) (hfi : L.fns 63 = some fn63) (f : AVal) (hd : isData f = true) (hk : ∃ g a c, f = .func g a c) (p : Ty → Bool) (xs : List Ty) (hl : xs.length < 2 ^ 30)
    (hg : ∀ a ∈ xs, ∀ h : Heap, (match f with | .func g u c => doCall L.pure (call L) g (u ++ .agg [.int .i64 a.kind, .str a.name, .int .i64 a.var, .list (a.args.map encTy) none] :: c) h | _ => none) = some (.val (.bool (p a)), h)) (h : Heap) :
    pcall L 42 [.list (xs.map encTy) none, f] h = some (.val (.bool (xs.any p)), h) := by
  have hp := hL.pure
  have hi := idx63 hL hfi f hd hk p xs hl hg
  obtain ⟨g, u, c, rfl⟩ := hk
  refine pcall_fn hL hf rfl ?_ h
  have ha := idxF_any p xs
  unfold fn42
  cases hq : xs.any p <;> rw [hq] at ha <;> simp -implicitDefEqProofs only [code_ops, code_seq, code_ret, ops_cons, ops_nil, aOp, opd, upd_at, initTm_at, stepVal, aBin, aInt, isShift, endFn, aResults, aResult, tupled, wipe_list, wipeR_bool, wipe_func, isData_list_none, isDataL_nil, isDataL_cons, Option.getD_some, List.map_cons, List.map_nil, List.nil_append, List.append_nil, List.getElem?_cons_zero, List.getElem?_cons_succ, ↓reduceIte, Bool.and_true, Bool.false_eq_true, reduceCtorEq, Nat.reduceEqDiff, ge_iff_le, data_Tys, outOf_val, hd, hi, doCall_p L hp, hp, ha]

theorem idx74 {L : Lib} (hL : Plain L) (hf : L.fns 74 = some fn74) (f : AVal) (hd : isData f = true) (hk : ∃ g a c, f = .func g a c) (p : ConSig → Bool) (xs : List ConSig) (hl : xs.length < 2 ^ 30)
    (hg : ∀ a ∈ xs, ∀ h : Heap, (match f with | .func g u c => doCall L.pure (call L) g (u ++ .agg [.str a.name, .list (a.args.map encTy) none] :: c) h | _ => none) = some (.val (.bool (p a)), h)) (h : Heap) :
    pcall L 74 [.list (xs.map encCon) none, f] h = some (.val (.int .i64 (idxF p xs)), h) := by
  have hp := hL.pure
  obtain ⟨g, u, c, rfl⟩ := hk
  dsimp only at hg
  refine pcall_fn hL hf rfl ?_ h
  have hloop := loopF_find (pure := L.pure) (call := call L) (b := 0) (keep := [0, 1, 7, 8]) (fk := [4]) (id := 0) (body := fn74_l0) xs (fun i a => if p a = true then some i else none)
    (fun i => ⟨kt [0, 1, 7, 8] [.list (xs.map encCon) none, .func g u c, .int .i64 xs.length, .int .i64 i], []⟩) ⟨kt [4] [.junk], []⟩ (fun i => ⟨kt [4] [.int .i64 i], []⟩)
    (by
      intro i hi hq
      have h1 : ((i : Int) < xs.length) := by omega
      have h2 : IntKind.i64.wrap ((i : Int) + 1) = ((i + 1 : Nat) : Int) := by rw [wrap64 (by omega) (by omega)]; rfl
      have h3 : (xs.map encCon)[i]? = some (encCon xs[i]) := by simp [hi]
      have h5 := hg xs[i] (List.getElem_mem hi)
      have h6 : p xs[i] = false := by cases hx : p xs[i] <;> simp [hx] at hq ⊢
      generalize xs[i] = a at *
      unfold fn74_l0
      simp -implicitDefEqProofs only [code_skip, code_ops, code_seq, code_cond, code_block, ops_cons, ops_nil, aOp, opd, upd_at, kt_cons, stepVal, aBin, aInt, aIndexList, isShift, readAt, acells_agg, gc_mk, gcIds_mk, newIds_nil, gcMap_at, posOf, ren, renC, renO_gone, idsV, idsC, isData_list_none, isData_int, Option.map_some, Option.getD_none, List.map_cons, List.map_nil, List.flatMap_cons, List.flatMap_nil, List.length_cons, List.length_nil, List.cons_append, List.nil_append, List.append_nil, List.append_assoc, List.getElem?_nil, List.take_succ_cons, List.drop_zero, List.take_nil, ↓reduceIte, Bool.false_eq_true, decide_true, Nat.le_refl, reduceCtorEq, Nat.zero_add, Nat.reduceEqDiff, Nat.reduceAdd, Int.toNat_natCast, Int.natCast_nonneg, roundF_eq, kt_nil, encCon_eq, data_Cons, hd, h1, h2, h3, h5, h6, reduceCtorEq])
    (by
      intro i hi r hq
      have h1 : ((i : Int) < xs.length) := by omega
      have h3 : (xs.map encCon)[i]? = some (encCon xs[i]) := by simp [hi]
      have h5 := hg xs[i] (List.getElem_mem hi)
      have h6 : p xs[i] = true := by cases hx : p xs[i] <;> simp [hx] at hq ⊢
      have h7 : i = r := by simpa [h6] using hq
      subst h7
      generalize xs[i] = a at *
      unfold fn74_l0
      simp -implicitDefEqProofs only [code_skip, code_ops, code_seq, code_cond, code_block, code_ret, ops_cons, ops_nil, aOp, opd, upd_at, kt_cons, stepVal, aBin, aInt, aIndexList, isShift, readAt, acells_agg, gcE, gc_mk, gcIds_mk, newIds_nil, gcMap_at, posOf, ren, renC, renO_gone, idsV, idsC, isData_int, Option.map_some, Option.getD_none, List.map_cons, List.map_nil, List.flatMap_cons, List.flatMap_nil, List.length_cons, List.length_nil, List.cons_append, List.nil_append, List.append_nil, List.append_assoc, List.getElem?_nil, List.take_succ_cons, List.drop_zero, List.take_nil, ↓reduceIte, Bool.false_eq_true, decide_true, Nat.le_refl, reduceCtorEq, Nat.zero_add, Nat.reduceEqDiff, Nat.reduceAdd, Int.toNat_natCast, Int.natCast_nonneg, roundF_eq, kt_nil, encCon_eq, hd, h1, h3, h5, h6, reduceCtorEq])
    (by
      have h0 : ¬ ((xs.length : Int) < xs.length) := by omega
      unfold fn74_l0
      simp -implicitDefEqProofs only [code_ops, code_seq, code_cond, code_exit, ops_cons, ops_nil, aOp, opd, upd_at, kt_cons, stepVal, aBin, aInt, isShift, gcE, gc_mk, gcIds_mk, newIds_nil, gcMap_at, posOf, ren, renC, renO_gone, idsV, idsC, isData_junk, Option.getD_none, List.map_cons, List.map_nil, List.flatMap_cons, List.flatMap_nil, List.length_nil, List.append_nil, List.getElem?_nil, List.take_nil, ↓reduceIte, Bool.false_eq_true, decide_false, Nat.le_refl, reduceCtorEq, Nat.reduceEqDiff, roundF_eq, kt_nil, hd, h0, reduceCtorEq])
  simp only [Int.natCast_zero] at hloop
  unfold fn74 idxF
  cases hq : findFrom (fun i a => if p a = true then some i else none) xs 0 <;> simp only [hq, fromFind] at hloop <;> simp -implicitDefEqProofs only [code_ops, code_seq, code_ret, ops_cons, ops_nil, aOp, opd, upd_at, initTm_at, kt_cons, stepVal, aLen, endFn, aResults, aResult, tupled, code_loopF, gc_mk, gcIds_mk, newIds_nil, gcMap_at, posOf, ren, renC, renO_gone, idsV, idsC, wipeR_int, isData_list_none, isData_int, Option.getD_some, Option.getD_none, List.map_cons, List.map_nil, List.flatMap_cons, List.flatMap_nil, List.length_nil, List.length_map, List.append_nil, List.getElem?_nil, List.getElem?_cons_zero, List.getElem?_cons_succ, List.take_nil, ↓reduceIte, Nat.le_refl, reduceCtorEq, Nat.reduceEqDiff, Int.reduceNeg, data_Cons, outOf_val, hd, hloop, hq]

theorem con58 {L : Lib} (hL : Plain L) (hf : L.fns 58 = some fn58) (hfi : L.fns 74 = some fn74) (f : AVal) (hd : isData f = true) (hk : ∃ g a c, f = .func g a c) (p : ConSig → Bool) (xs : List ConSig) (hl : xs.length < 2 ^ 30)
    (hg : ∀ a ∈ xs, ∀ h : Heap, (match f with | .func g u c => doCall L.pure (call L) g (u ++ .agg [.str a.name, .list (a.args.map encTy) none] :: c) h | _ => none) = some (.val (.bool (p a)), h)) (h : Heap) :
    pcall L 58 [.list (xs.map encCon) none, f] h = some (.val (.bool (xs.any p)), h) := by
  have hp := hL.pure
  have hi := idx74 hL hfi f hd hk p xs hl hg
  obtain ⟨g, u, c, rfl⟩ := hk
  refine pcall_fn hL hf rfl ?_ h
  have ha := idxF_any p xs
  unfold fn58
  cases hq : xs.any p <;> rw [hq] at ha <;> simp -implicitDefEqProofs only [code_ops, code_seq, code_ret, ops_cons, ops_nil, aOp, opd, upd_at, initTm_at, stepVal, aBin, aInt, isShift, endFn, aResults, aResult, tupled, wipe_list, wipeR_bool, wipe_func, isData_list_none, isDataL_nil, isDataL_cons, Option.getD_some, List.map_cons, List.map_nil, List.nil_append, List.append_nil, List.getElem?_cons_zero, List.getElem?_cons_succ, ↓reduceIte, Bool.and_true, Bool.false_eq_true, reduceCtorEq, Nat.reduceEqDiff, ge_iff_le, data_Cons, outOf_val, hd, hi, doCall_p L hp, hp, ha]

def bs67_C (xs : List DataSig) (s : ByteArray) (g : Nat) (i j : Nat) : St := ⟨kt [0, 1, 2, 8, 9, 10] [.list (xs.map encData) none, .str s, .func g [] [], .int .i64 xs.length, .int .i64 i, .int .i64 j], []⟩
theorem bs67_l0 {L : Lib} (hL : Plain L) (g : Nat) (cmp : DataSig → Int) (xs : List DataSig) (s : ByteArray) (hl : xs.length < 2 ^ 30)
    (hg : ∀ a ∈ xs, ∀ h : Heap, pcall L g [.agg [.str a.name, .int .i64 a.params, .list (a.cons.map encCon) none], .str s] h = some (.val (.int .i64 (cmp a)), h)) :
    ∀ (m i j : Nat), j - i = m → i ≤ j → j ≤ xs.length → loopF L.pure (call L) 0 [0, 1, 2, 8, 9, 10] [0, 1, 2, 8, 9] 0 fn67_l0 (bs67_C xs s g i j) =
      some (.normal, ⟨kt [0, 1, 2, 8, 9] [.list (xs.map encData) none, .str s, .func g [] [], .int .i64 xs.length, .int .i64 (bloop cmp xs i j : Nat)], []⟩) := by
  have hp := hL.pure
  intro m
  induction m using Nat.strongRecOn with
  | ind m ih =>
    intro i j hm hij hj
    rw [bloop]
    by_cases hlt : i < j
    · have h1 : ((i : Int) < j) := by omega
      have hmid : (i + j) / 2 < xs.length := by omega
      have h2 : IntKind.i64.wrap ((i : Int) + j) = ((i + j : Nat) : Int) := by rw [wrap64 (by omega) (by omega)]; rfl
      have h3 : IntKind.u64.wrap ((i + j : Nat) : Int) = ((i + j : Nat) : Int) := wrapU64 (by omega) (by omega)
      have h4 : aShift .shr .u64 ((i + j : Nat) : Int) 1 = some (.int .u64 (((i + j) / 2 : Nat) : Int)) := shr_one _
      have h5 : IntKind.i64.wrap (((i + j) / 2 : Nat) : Int) = (((i + j) / 2 : Nat) : Int) := wrap64 (by omega) (by omega)
      have h6 : (xs.map encData)[(i + j) / 2]? = some (encData xs[(i + j) / 2]) := by simp [hmid]
      have h7 := hg xs[(i + j) / 2] (List.getElem_mem hmid)
      have h8 : IntKind.i64.wrap ((((i + j) / 2 : Nat) : Int) + 1) = (((i + j) / 2 + 1 : Nat) : Int) := by rw [wrap64 (by omega) (by omega)]; rfl
      rw [dif_pos hlt, List.getElem?_eq_getElem hmid]
      dsimp only
      by_cases hc : cmp xs[(i + j) / 2] < 0
      · rw [if_pos hc]
        rw [loopF_next (s1 := bs67_C xs s g ((i + j) / 2 + 1) j)]
        · exact ih (j - ((i + j) / 2 + 1)) (by omega) _ _ rfl (by omega) hj
        · generalize xs[(i + j) / 2] = a at *
          generalize (i + j) / 2 = q at *
          generalize i + j = r at *
          unfold fn67_l0 bs67_C
          simp -implicitDefEqProofs only [code_skip, code_ops, code_seq, code_cond, code_block, ops_cons, ops_nil, aOp, opd, upd_at, kt_cons, stepVal, aBin, aInt, aIndexList, isShift, readAt, acells_agg, gc_mk, gcIds_mk, newIds_nil, gcMap_at, posOf, ren, renC, renO_gone, idsV, idsC, wipe_agg, wipe_str, wipeC_list, wipeC_int, wipeC_str, isData_list_none, isData_int, isData_str, isData_agg, isData_func, isDataL_nil, isDataL_cons, Option.map_some, Option.getD_none, List.map_cons, List.map_nil, List.flatMap_cons, List.flatMap_nil, List.length_cons, List.length_nil, List.nil_append, List.append_nil, List.getElem?_nil, List.take_succ_cons, List.drop_zero, List.take_nil, ↓reduceIte, Bool.and_true, Bool.false_eq_true, decide_true, Nat.le_refl, reduceCtorEq, Nat.zero_add, Nat.reduceEqDiff, Nat.reduceAdd, Int.toNat_natCast, Int.natCast_nonneg, roundF_eq, kt_nil, encData_eq, data_Cons, data_Datas, h1, h2, h3, h4, h5, h6, h7, h8, hc, doCall_p L hp, hp]
      · rw [if_neg hc]
        rw [loopF_next (s1 := bs67_C xs s g i ((i + j) / 2))]
        · exact ih ((i + j) / 2 - i) (by omega) _ _ rfl (by omega) (by omega)
        · generalize xs[(i + j) / 2] = a at *
          generalize (i + j) / 2 = q at *
          generalize i + j = r at *
          unfold fn67_l0 bs67_C
          simp -implicitDefEqProofs only [code_skip, code_ops, code_seq, code_cond, code_block, ops_cons, ops_nil, aOp, opd, upd_at, kt_cons, stepVal, aBin, aInt, aIndexList, isShift, readAt, acells_agg, gc_mk, gcIds_mk, newIds_nil, gcMap_at, posOf, ren, renC, renO_gone, idsV, idsC, wipe_agg, wipe_str, wipeC_list, wipeC_int, wipeC_str, isData_list_none, isData_int, isData_str, isData_agg, isData_func, isDataL_nil, isDataL_cons, Option.map_some, Option.getD_none, List.map_cons, List.map_nil, List.flatMap_cons, List.flatMap_nil, List.length_cons, List.length_nil, List.nil_append, List.append_nil, List.getElem?_nil, List.take_succ_cons, List.drop_zero, List.take_nil, ↓reduceIte, Bool.and_true, Bool.false_eq_true, decide_true, decide_false, Nat.le_refl, reduceCtorEq, Nat.zero_add, Nat.reduceEqDiff, Nat.reduceAdd, Int.toNat_natCast, Int.natCast_nonneg, roundF_eq, kt_nil, encData_eq, data_Cons, data_Datas, h1, h2, h3, h4, h5, h6, h7, h8, hc, doCall_p L hp, hp]
    · rw [dif_neg hlt]
      refine loopF_exit ?_
      have h1 : ¬ ((i : Int) < j) := by omega
      unfold fn67_l0 bs67_C
      simp -implicitDefEqProofs only [code_ops, code_seq, code_cond, code_exit, ops_cons, ops_nil, aOp, opd, upd_at, kt_cons, stepVal, aBin, aInt, isShift, gcE, gc_mk, gcIds_mk, newIds_nil, gcMap_at, posOf, ren, renC, renO_gone, idsV, idsC, isData_list_none, isData_int, isData_str, isData_func, isDataL_nil, Option.getD_none, List.map_cons, List.map_nil, List.flatMap_cons, List.flatMap_nil, List.length_nil, List.append_nil, List.getElem?_nil, List.take_nil, ↓reduceIte, Bool.and_true, Bool.false_eq_true, decide_false, Nat.le_refl, reduceCtorEq, Nat.reduceEqDiff, roundF_eq, kt_nil, data_Datas, h1]
theorem bs67 {L : Lib} (hL : Plain L) (hf : L.fns 67 = some fn67) (g : Nat) (cmp : DataSig → Int) (xs : List DataSig) (s : ByteArray) (hl : xs.length < 2 ^ 30)
    (hg : ∀ a ∈ xs, ∀ h : Heap, pcall L g [.agg [.str a.name, .int .i64 a.params, .list (a.cons.map encCon) none], .str s] h = some (.val (.int .i64 (cmp a)), h)) (h : Heap) :
    pcall L 67 [.list (xs.map encData) none, .str s, .func g [] []] h = some (.val (.tuple [.int .i64 (bloop cmp xs 0 xs.length : Nat), .bool (bfound cmp xs)]), h) := by
  have hp := hL.pure
  refine pcall_fn hL hf rfl ?_ h
  have hloop := bs67_l0 hL g cmp xs s hl hg _ 0 xs.length rfl (by omega) (by omega)
  unfold bs67_C at hloop
  simp only [Int.natCast_zero] at hloop
  unfold fn67 bfound
  generalize bloop cmp xs 0 xs.length = r at *
  by_cases hr : r < xs.length
  · have h1 : ((r : Int) < xs.length) := by omega
    have h6 : (xs.map encData)[r]? = some (encData xs[r]) := by simp [hr]
    have h7 := hg xs[r] (List.getElem_mem hr)
    rw [List.getElem?_eq_getElem hr]
    dsimp only
    generalize xs[r] = a at *
    simp -implicitDefEqProofs only [code_ops, code_seq, code_ret, ops_cons, ops_cons_g, ops_nil, aOp, opd, upd_at, initTm_at, kt_cons, stepVal, aBin, aLen, aInt, aIndexList, isShift, aWanted, readAt, acells_agg, endFn, aResults, aResult, tupled, code_loopF, gc_mk, gcIds_mk, newIds_nil, gcMap_at, posOf, ren, renC, renO_gone, idsV, idsC, wipe_agg, wipe_bool, wipe_int, wipe_str, wipeR_tuple, wipeC_list, wipeC_int, wipeC_str, isData_list_none, isData_int, isData_str, isData_agg, isData_func, isDataL_nil, isDataL_cons, beq_self_eq_true, Option.map_some, Option.getD_some, Option.getD_none, List.map_cons, List.map_nil, List.flatMap_cons, List.flatMap_nil, List.length_cons, List.length_nil, List.length_map, List.nil_append, List.append_nil, List.getElem?_nil, List.getElem?_cons_zero, List.getElem?_cons_succ, List.take_succ_cons, List.drop_zero, List.take_nil, ↓reduceIte, Bool.and_true, Bool.false_eq_true, decide_true, Nat.le_refl, reduceCtorEq, Nat.zero_add, Nat.reduceEqDiff, Nat.reduceAdd, Int.toNat_natCast, Int.natCast_nonneg, encData_eq, data_Cons, data_Datas, outOf_val, hloop, h1, h6, h7, doCall_p L hp, hp]
  · have h1 : ¬ ((r : Int) < xs.length) := by omega
    rw [List.getElem?_eq_none (by omega)]
    simp -implicitDefEqProofs only [code_ops, code_seq, code_ret, ops_cons, ops_cons_g, ops_nil, aOp, opd, upd_at, initTm_at, kt_cons, stepVal, aBin, aLen, aInt, isShift, aWanted, endFn, aResults, aResult, tupled, code_loopF, gc_mk, gcIds_mk, newIds_nil, gcMap_at, posOf, ren, renC, renO_gone, idsV, idsC, wipe_bool, wipe_int, wipeR_tuple, isData_list_none, isData_int, isData_str, isData_func, isDataL_nil, beqFT, Option.getD_some, Option.getD_none, List.map_cons, List.map_nil, List.flatMap_cons, List.flatMap_nil, List.length_nil, List.length_map, List.append_nil, List.getElem?_nil, List.getElem?_cons_zero, List.getElem?_cons_succ, List.take_nil, ↓reduceIte, Bool.and_true, Bool.false_eq_true, decide_false, Nat.le_refl, reduceCtorEq, Nat.reduceEqDiff, data_Datas, outOf_val, hloop, h1, doCall_p L hp, hp]

def bs32_C (xs : List ValSig) (s : ByteArray) (g : Nat) (i j : Nat) : St := ⟨kt [0, 1, 2, 8, 9, 10] [.list (xs.map encVal) none, .str s, .func g [] [], .int .i64 xs.length, .int .i64 i, .int .i64 j], []⟩
theorem bs32_l0 {L : Lib} (hL : Plain L) (g : Nat) (cmp : ValSig → Int) (xs : List ValSig) (s : ByteArray) (hl : xs.length < 2 ^ 30)
    (hg : ∀ a ∈ xs, ∀ h : Heap, pcall L g [.agg [.str a.name, .int .i64 a.scheme.vars, .list (a.scheme.preds.map encPred) none, .int .i64 a.scheme.type.kind, .str a.scheme.type.name, .int .i64 a.scheme.type.var, .list (a.scheme.type.args.map encTy) none], .str s] h = some (.val (.int .i64 (cmp a)), h)) :
    ∀ (m i j : Nat), j - i = m → i ≤ j → j ≤ xs.length → loopF L.pure (call L) 0 [0, 1, 2, 8, 9, 10] [0, 1, 2, 8, 9] 0 fn32_l0 (bs32_C xs s g i j) =
      some (.normal, ⟨kt [0, 1, 2, 8, 9] [.list (xs.map encVal) none, .str s, .func g [] [], .int .i64 xs.length, .int .i64 (bloop cmp xs i j : Nat)], []⟩) := by
  have hp := hL.pure
  intro m
  induction m using Nat.strongRecOn with
  | ind m ih =>
    intro i j hm hij hj
    rw [bloop]
    by_cases hlt : i < j
    · have h1 : ((i : Int) < j) := by omega
      have hmid : (i + j) / 2 < xs.length := by omega
      have h2 : IntKind.i64.wrap ((i : Int) + j) = ((i + j : Nat) : Int) := by rw [wrap64 (by omega) (by omega)]; rfl
      have h3 : IntKind.u64.wrap ((i + j : Nat) : Int) = ((i + j : Nat) : Int) := wrapU64 (by omega) (by omega)
      have h4 : aShift .shr .u64 ((i + j : Nat) : Int) 1 = some (.int .u64 (((i + j) / 2 : Nat) : Int)) := shr_one _
      have h5 : IntKind.i64.wrap (((i + j) / 2 : Nat) : Int) = (((i + j) / 2 : Nat) : Int) := wrap64 (by omega) (by omega)
      have h6 : (xs.map encVal)[(i + j) / 2]? = some (encVal xs[(i + j) / 2]) := by simp [hmid]
      have h7 := hg xs[(i + j) / 2] (List.getElem_mem hmid)
      have h8 : IntKind.i64.wrap ((((i + j) / 2 : Nat) : Int) + 1) = (((i + j) / 2 + 1 : Nat) : Int) := by rw [wrap64 (by omega) (by omega)]; rfl
      rw [dif_pos hlt, List.getElem?_eq_getElem hmid]
      dsimp only
      by_cases hc : cmp xs[(i + j) / 2] < 0
      · rw [if_pos hc]
        rw [loopF_next (s1 := bs32_C xs s g ((i + j) / 2 + 1) j)]
        · exact ih (j - ((i + j) / 2 + 1)) (by omega) _ _ rfl (by omega) hj
        · generalize xs[(i + j) / 2] = a at *
          generalize (i + j) / 2 = q at *
          generalize i + j = r at *
          unfold fn32_l0 bs32_C
          simp -implicitDefEqProofs only [code_skip, code_ops, code_seq, code_cond, code_block, ops_cons, ops_nil, aOp, opd, upd_at, kt_cons, stepVal, aBin, aInt, aIndexList, isShift, readAt, acells_agg, gc_mk, gcIds_mk, newIds_nil, gcMap_at, posOf, ren, renC, renO_gone, idsV, idsC, wipe_agg, wipe_str, wipeC_list, wipeC_int, wipeC_str, isData_list_none, isData_int, isData_str, isData_agg, isData_func, isDataL_nil, isDataL_cons, Option.map_some, Option.getD_none, List.map_cons, List.map_nil, List.flatMap_cons, List.flatMap_nil, List.length_cons, List.length_nil, List.nil_append, List.append_nil, List.getElem?_nil, List.take_succ_cons, List.drop_zero, List.take_nil, ↓reduceIte, Bool.and_true, Bool.false_eq_true, decide_true, Nat.le_refl, reduceCtorEq, Nat.zero_add, Nat.reduceEqDiff, Nat.reduceAdd, Int.toNat_natCast, Int.natCast_nonneg, roundF_eq, kt_nil, encVal_eq, data_Tys, data_Preds, data_Vals, h1, h2, h3, h4, h5, h6, h7, h8, hc, doCall_p L hp, hp]
      · rw [if_neg hc]
        rw [loopF_next (s1 := bs32_C xs s g i ((i + j) / 2))]
        · exact ih ((i + j) / 2 - i) (by omega) _ _ rfl (by omega) (by omega)
        · generalize xs[(i + j) / 2] = a at *
          generalize (i + j) / 2 = q at *
          generalize i + j = r at *
          unfold fn32_l0 bs32_C
          simp -implicitDefEqProofs only [code_skip, code_ops, code_seq, code_cond, code_block, ops_cons, ops_nil, aOp, opd, upd_at, kt_cons, stepVal, aBin, aInt, aIndexList, isShift, readAt, acells_agg, gc_mk, gcIds_mk, newIds_nil, gcMap_at, posOf, ren, renC, renO_gone, idsV, idsC, wipe_agg, wipe_str, wipeC_list, wipeC_int, wipeC_str, isData_list_none, isData_int, isData_str, isData_agg, isData_func, isDataL_nil, isDataL_cons, Option.map_some, Option.getD_none, List.map_cons, List.map_nil, List.flatMap_cons, List.flatMap_nil, List.length_cons, List.length_nil, List.nil_append, List.append_nil, List.getElem?_nil, List.take_succ_cons, List.drop_zero, List.take_nil, ↓reduceIte, Bool.and_true, Bool.false_eq_true, decide_true, decide_false, Nat.le_refl, reduceCtorEq, Nat.zero_add, Nat.reduceEqDiff, Nat.reduceAdd, Int.toNat_natCast, Int.natCast_nonneg, roundF_eq, kt_nil, encVal_eq, data_Tys, data_Preds, data_Vals, h1, h2, h3, h4, h5, h6, h7, h8, hc, doCall_p L hp, hp]
    · rw [dif_neg hlt]
      refine loopF_exit ?_
      have h1 : ¬ ((i : Int) < j) := by omega
      unfold fn32_l0 bs32_C
      simp -implicitDefEqProofs only [code_ops, code_seq, code_cond, code_exit, ops_cons, ops_nil, aOp, opd, upd_at, kt_cons, stepVal, aBin, aInt, isShift, gcE, gc_mk, gcIds_mk, newIds_nil, gcMap_at, posOf, ren, renC, renO_gone, idsV, idsC, isData_list_none, isData_int, isData_str, isData_func, isDataL_nil, Option.getD_none, List.map_cons, List.map_nil, List.flatMap_cons, List.flatMap_nil, List.length_nil, List.append_nil, List.getElem?_nil, List.take_nil, ↓reduceIte, Bool.and_true, Bool.false_eq_true, decide_false, Nat.le_refl, reduceCtorEq, Nat.reduceEqDiff, roundF_eq, kt_nil, data_Vals, h1]
theorem bs32 {L : Lib} (hL : Plain L) (hf : L.fns 32 = some fn32) (g : Nat) (cmp : ValSig → Int) (xs : List ValSig) (s : ByteArray) (hl : xs.length < 2 ^ 30)
    (hg : ∀ a ∈ xs, ∀ h : Heap, pcall L g [.agg [.str a.name, .int .i64 a.scheme.vars, .list (a.scheme.preds.map encPred) none, .int .i64 a.scheme.type.kind, .str a.scheme.type.name, .int .i64 a.scheme.type.var, .list (a.scheme.type.args.map encTy) none], .str s] h = some (.val (.int .i64 (cmp a)), h)) (h : Heap) :
    pcall L 32 [.list (xs.map encVal) none, .str s, .func g [] []] h = some (.val (.tuple [.int .i64 (bloop cmp xs 0 xs.length : Nat), .bool (bfound cmp xs)]), h) := by
  have hp := hL.pure
  refine pcall_fn hL hf rfl ?_ h
  have hloop := bs32_l0 hL g cmp xs s hl hg _ 0 xs.length rfl (by omega) (by omega)
  unfold bs32_C at hloop
  simp only [Int.natCast_zero] at hloop
  unfold fn32 bfound
  generalize bloop cmp xs 0 xs.length = r at *
  by_cases hr : r < xs.length
  · have h1 : ((r : Int) < xs.length) := by omega
    have h6 : (xs.map encVal)[r]? = some (encVal xs[r]) := by simp [hr]
    have h7 := hg xs[r] (List.getElem_mem hr)
    rw [List.getElem?_eq_getElem hr]
    dsimp only
    generalize xs[r] = a at *
    simp -implicitDefEqProofs only [code_ops, code_seq, code_ret, ops_cons, ops_cons_g, ops_nil, aOp, opd, upd_at, initTm_at, kt_cons, stepVal, aBin, aLen, aInt, aIndexList, isShift, aWanted, readAt, acells_agg, endFn, aResults, aResult, tupled, code_loopF, gc_mk, gcIds_mk, newIds_nil, gcMap_at, posOf, ren, renC, renO_gone, idsV, idsC, wipe_agg, wipe_bool, wipe_int, wipe_str, wipeR_tuple, wipeC_list, wipeC_int, wipeC_str, isData_list_none, isData_int, isData_str, isData_agg, isData_func, isDataL_nil, isDataL_cons, beq_self_eq_true, Option.map_some, Option.getD_some, Option.getD_none, List.map_cons, List.map_nil, List.flatMap_cons, List.flatMap_nil, List.length_cons, List.length_nil, List.length_map, List.nil_append, List.append_nil, List.getElem?_nil, List.getElem?_cons_zero, List.getElem?_cons_succ, List.take_succ_cons, List.drop_zero, List.take_nil, ↓reduceIte, Bool.and_true, Bool.false_eq_true, decide_true, Nat.le_refl, reduceCtorEq, Nat.zero_add, Nat.reduceEqDiff, Nat.reduceAdd, Int.toNat_natCast, Int.natCast_nonneg, encVal_eq, data_Tys, data_Preds, data_Vals, outOf_val, hloop, h1, h6, h7, doCall_p L hp, hp]
  · have h1 : ¬ ((r : Int) < xs.length) := by omega
    rw [List.getElem?_eq_none (by omega)]
    simp -implicitDefEqProofs only [code_ops, code_seq, code_ret, ops_cons, ops_cons_g, ops_nil, aOp, opd, upd_at, initTm_at, kt_cons, stepVal, aBin, aLen, aInt, isShift, aWanted, endFn, aResults, aResult, tupled, code_loopF, gc_mk, gcIds_mk, newIds_nil, gcMap_at, posOf, ren, renC, renO_gone, idsV, idsC, wipe_bool, wipe_int, wipeR_tuple, isData_list_none, isData_int, isData_str, isData_func, isDataL_nil, beqFT, Option.getD_some, Option.getD_none, List.map_cons, List.map_nil, List.flatMap_cons, List.flatMap_nil, List.length_nil, List.length_map, List.append_nil, List.getElem?_nil, List.getElem?_cons_zero, List.getElem?_cons_succ, List.take_nil, ↓reduceIte, Bool.and_true, Bool.false_eq_true, decide_false, Nat.le_refl, reduceCtorEq, Nat.reduceEqDiff, data_Vals, outOf_val, hloop, h1, doCall_p L hp, hp]

end Go.Abs
