/-
  What comparing and finding answer. Conditions: none.
-/
import Derived.Test.YtlielgleabghlaaDoorSigH
import Derived.Test.YtlielgleabghlaaDoorSigG

set_option linter.unusedVariables false
set_option linter.unusedSimpArgs false
set_option maxRecDepth 100000
set_option maxHeartbeats 4000000
namespace Go.Abs

def cmpB (a b : ByteArray) : Int := if a = b then 0 else if Op.bytesLess a.toList b.toList = true then -1 else 1
/-- What is taken from the library's own functions. -/
structure Prims (L : Lib) (ca : ByteArray → ByteArray → Bool) : Prop where
  cmp : ∀ a b h, pcall L 34 [.str a, .str b] h = some (.val (.int .i64 (cmpB a b)), h)
  any : ∀ a h, a.size ≤ 40 → pcall L 50 [.str a, .str ⟨#[46, 40, 41, 35, 32]⟩] h = some (.val (.bool (ca a ⟨#[46, 40, 41, 35, 32]⟩)), h)

def sameType : Ty → Ty → Bool
  | .mk k n v as, .mk k' n' v' bs =>
    (k == k') && ((k != 0) || (v == v')) && (((k != 1) && (k != 5)) || decide (n = n')) && (as.length == bs.length && sameTypes as bs)
 where sameTypes : List Ty → List Ty → Bool
  | a :: as, b :: bs => sameType a b && sameTypes as bs
  | _, _ => true
theorem sameTypes_all : ∀ (as bs : List Ty), sameType.sameTypes as bs = (as.zip bs).all fun q => sameType q.1 q.2
  | [], bs => by rw [sameType.sameTypes] <;> simp
  | a :: as, [] => by rw [sameType.sameTypes] <;> simp
  | a :: as, b :: bs => by rw [sameType.sameTypes, sameTypes_all as bs]; simp
theorem sameType_mk (k : Int) (n : ByteArray) (v : Int) (as : List Ty) (b : Ty) : sameType (.mk k n v as) b = ((k == b.kind) && ((k != 0) || (v == b.var)) && (((k != 1) && (k != 5)) || decide (n = b.name)) && eqF sameType as b.args) := by
  cases b with
  | mk k' n' v' bs =>
  rw [sameType, sameTypes_all]
  rfl

/-- Every list in it is short. -/
inductive TyFit : Ty → Prop
  | mk {k : Int} {n : ByteArray} {v : Int} {as : List Ty} (hl : as.length < 2 ^ 30) (ha : ∀ a ∈ as, TyFit a) : TyFit (.mk k n v as)

theorem same_ok {L : Lib} (hL : Plain L) (hf : L.fns 71 = some fn71) (he : L.fns 70 = some fn70) (a : Ty) (hfit : TyFit a) : ∀ (b : Ty) (h : Heap),
    pcall L 71 [.agg [.int .i64 a.kind, .str a.name, .int .i64 a.var, .list (a.args.map encTy) none], .agg [.int .i64 b.kind, .str b.name, .int .i64 b.var, .list (b.args.map encTy) none]] h = some (.val (.bool (sameType a b)), h) := by
  have hp := hL.pure
  induction a using Ty.ind with
  | h k n v as ih =>
    cases hfit with
    | mk hl ha =>
    intro b h
    have heq := eqf70 hL he 71 sameType as b.args hl (fun x hx y _ h => ih x hx (ha x hx) y h)
    rw [sameType_mk]
    refine pcall_fn hL hf rfl ?_ h
    simp only [Ty.kind_mk, Ty.name_mk, Ty.var_mk, Ty.args_mk]
    unfold fn71
    cases h1 : (k == b.kind)
    · simp -implicitDefEqProofs only [code_ops, code_seq, code_ret, ops_cons, ops_cons_g, ops_nil, aOp, opd, upd_at, initTm_at, stepVal, aBin, aInt, isShift, aWanted, aLoad1, aField, acells_agg, endFn, aResults, aResult, tupled, wipeR_bool, beqFT, Option.getD_some, List.length_cons, List.length_nil, List.cons_append, List.nil_append, List.getElem?_cons_zero, List.getElem?_cons_succ, ↓reduceIte, Bool.false_and, Bool.false_eq_true, Nat.add_zero, Nat.zero_add, Nat.reduceEqDiff, outOf_val, h1, doCall_p L hp, hp, heq, bne]
    · have h45 : (k == 1) = false ∨ (k == 1) = true ∧ (k == 5) = false := by
        cases h4 : (k == 1)
        · exact .inl rfl
        · have : k = 1 := by simpa using h4
          subst this
          exact .inr ⟨rfl, rfl⟩
      cases h2 : (k == 0)
      · rcases h45 with h4 | ⟨h4, h5⟩
        · cases h5 : (k == 5)
          · simp -implicitDefEqProofs only [code_ops, code_seq, code_ret, ops_cons, ops_cons_g, ops_nil, aOp, opd, upd_at, initTm_at, stepVal, aBin, aInt, isShift, aWanted, aLoad1, aField, acells_agg, endFn, aResults, aResult, tupled, wipe_list, wipeR_bool, wipe_func, isData_list_none, isData_func, isDataL_nil, isDataL_cons, beqTF, beq_self_eq_true, Option.getD_some, List.map_cons, List.map_nil, List.length_cons, List.length_nil, List.cons_append, List.nil_append, List.append_nil, List.getElem?_cons_zero, List.getElem?_cons_succ, ↓reduceIte, Bool.and_true, Bool.true_and, Bool.true_or, Bool.not_false, Bool.false_eq_true, Nat.add_zero, Nat.zero_add, Nat.reduceEqDiff, data_Tys, outOf_val, h1, h2, h4, h5, doCall_p L hp, hp, heq, bne]
          · cases h6 : decide (n = b.name) <;> simp -implicitDefEqProofs only [code_ops, code_seq, code_ret, ops_cons, ops_cons_g, ops_nil, aOp, opd, upd_at, initTm_at, stepVal, aBin, aStr, aInt, isShift, aWanted, aLoad1, aField, acells_agg, endFn, aResults, aResult, tupled, wipe_list, wipeR_bool, wipe_func, isData_list_none, isData_func, isDataL_nil, isDataL_cons, beqTF, beqFT, beq_self_eq_true, Option.getD_some, List.map_cons, List.map_nil, List.length_cons, List.length_nil, List.cons_append, List.nil_append, List.append_nil, List.getElem?_cons_zero, List.getElem?_cons_succ, ↓reduceIte, Bool.and_true, Bool.true_and, Bool.and_false, Bool.false_and, Bool.or_true, Bool.true_or, Bool.or_false, Bool.not_true, Bool.not_false, Bool.false_eq_true, Nat.add_zero, Nat.zero_add, Nat.reduceEqDiff, data_Tys, outOf_val, h1, h2, h4, h5, h6, doCall_p L hp, hp, heq, bne]
        · cases h6 : decide (n = b.name) <;> simp -implicitDefEqProofs only [code_ops, code_seq, code_ret, ops_cons, ops_cons_g, ops_nil, aOp, opd, upd_at, initTm_at, stepVal, aBin, aStr, aInt, isShift, aWanted, aLoad1, aField, acells_agg, endFn, aResults, aResult, tupled, wipe_list, wipeR_bool, wipe_func, isData_list_none, isData_func, isDataL_nil, isDataL_cons, beqTF, beqFT, beq_self_eq_true, Option.getD_some, List.map_cons, List.map_nil, List.length_cons, List.length_nil, List.cons_append, List.nil_append, List.append_nil, List.getElem?_cons_zero, List.getElem?_cons_succ, ↓reduceIte, Bool.and_true, Bool.true_and, Bool.and_false, Bool.false_and, Bool.or_true, Bool.true_or, Bool.or_false, Bool.not_true, Bool.not_false, Bool.false_eq_true, Nat.add_zero, Nat.zero_add, Nat.reduceEqDiff, data_Tys, outOf_val, h1, h2, h4, h5, h6, doCall_p L hp, hp, heq, bne]
      · have hk : k = 0 := by simpa using h2
        subst hk
        cases h3 : (v == b.var) <;> simp -implicitDefEqProofs only [code_ops, code_seq, code_ret, ops_cons, ops_cons_g, ops_nil, aOp, opd, upd_at, initTm_at, stepVal, aBin, aInt, isShift, aWanted, aLoad1, aField, acells_agg, endFn, aResults, aResult, tupled, wipe_list, wipeR_bool, wipe_func, isData_list_none, isData_func, isDataL_nil, isDataL_cons, beqTF, beqFT, beq_self_eq_true, Option.getD_some, List.map_cons, List.map_nil, List.length_cons, List.length_nil, List.cons_append, List.nil_append, List.append_nil, List.getElem?_cons_zero, List.getElem?_cons_succ, ↓reduceIte, Bool.and_true, Bool.true_and, Bool.and_false, Bool.false_and, Bool.or_true, Bool.true_or, Bool.or_false, Bool.not_true, Bool.not_false, Bool.false_eq_true, Nat.add_zero, Nat.zero_add, Nat.reduceEqDiff, Int.reduceBEq, data_Tys, outOf_val, h1, h3, doCall_p L hp, hp, heq, bne]

theorem find1_ok {L : Lib} {ca : ByteArray → ByteArray → Bool} (hL : Plain L) (hP : Prims L ca) (hf : L.fns 68 = some fn68) (d : DataSig) (s : ByteArray) (h : Heap) :
    pcall L 68 [.agg [.str d.name, .int .i64 d.params, .list (d.cons.map encCon) none], .str s] h = some (.val (.int .i64 (cmpB d.name s)), h) := by
  have hp := hL.pure
  refine pcall_fn hL hf rfl ?_ h
  unfold fn68
  simp -implicitDefEqProofs only [code_ops, code_seq, code_ret, ops_cons, ops_nil, aOp, opd, upd_at, initTm_at, stepVal, aLoad1, aField, acells_agg, endFn, aResults, aResult, tupled, wipe_str, wipeR_int, isData_str, isDataL_nil, isDataL_cons, Option.getD_some, List.map_cons, List.map_nil, List.length_nil, List.nil_append, List.getElem?_cons_zero, List.getElem?_cons_succ, ↓reduceIte, Bool.and_true, and_self, Nat.add_zero, Nat.reduceEqDiff, onlyVal, outOf_val, doCall_p L hp, hp, hP.cmp]
theorem match1_ok {L : Lib} {ca : ByteArray → ByteArray → Bool} (hL : Plain L) (hP : Prims L ca) (hf : L.fns 33 = some fn33) (v : ValSig) (s : ByteArray) (h : Heap) :
    pcall L 33 [.agg [.str v.name, .int .i64 v.scheme.vars, .list (v.scheme.preds.map encPred) none, .int .i64 v.scheme.type.kind, .str v.scheme.type.name, .int .i64 v.scheme.type.var, .list (v.scheme.type.args.map encTy) none], .str s] h = some (.val (.int .i64 (cmpB v.name s)), h) := by
  have hp := hL.pure
  refine pcall_fn hL hf rfl ?_ h
  unfold fn33
  simp -implicitDefEqProofs only [code_ops, code_seq, code_ret, ops_cons, ops_nil, aOp, opd, upd_at, initTm_at, stepVal, aLoad1, aField, acells_agg, endFn, aResults, aResult, tupled, wipe_str, wipeR_int, isData_str, isDataL_nil, isDataL_cons, Option.getD_some, List.map_cons, List.map_nil, List.length_nil, List.nil_append, List.getElem?_cons_zero, List.getElem?_cons_succ, ↓reduceIte, Bool.and_true, and_self, Nat.add_zero, Nat.reduceEqDiff, onlyVal, outOf_val, doCall_p L hp, hp, hP.cmp]

def zeroData : DataSig := ⟨⟨#[]⟩, 0, []⟩
def find (l : List DataSig) (s : ByteArray) : DataSig × Bool :=
  if bfound (fun d => cmpB d.name s) l = true then ((l[bloop (fun d => cmpB d.name s) l 0 l.length]?).getD zeroData, true) else (zeroData, false)
theorem bfound_lt {α : Type} {cmp : α → Int} {xs : List α} (h : bfound cmp xs = true) : bloop cmp xs 0 xs.length < xs.length := by
  unfold bfound at h
  split at h
  · rename_i x hx
    exact (List.getElem?_eq_some_iff.1 hx).1
  · cases h
theorem find_ok {L : Lib} {ca : ByteArray → ByteArray → Bool} (hL : Plain L) (hP : Prims L ca) (h68 : L.fns 68 = some fn68) (h67 : L.fns 67 = some fn67) (hf : L.fns 49 = some fn49) (l : List DataSig) (hl : l.length < 2 ^ 30) (s : ByteArray) (h : Heap) :
    pcall L 49 [.list (l.map encData) none, .str s] h = some (.val (.tuple [.agg [.str (find l s).1.name, .int .i64 (find l s).1.params, .list ((find l s).1.cons.map encCon) none], .bool (find l s).2]), h) := by
  have hp := hL.pure
  have hb := bs67 hL h67 68 (fun d => cmpB d.name s) l s hl (fun a _ h => find1_ok hL hP h68 a s h)
  refine pcall_fn hL hf (by simp -implicitDefEqProofs only [isData_list_none, isData_bool, isData_int, isData_str, isData_agg, isData_tuple, isDataL_nil, isDataL_cons, Bool.and_true, data_Cons]) ?_ h
  unfold find fn49
  cases hq : bfound (fun d => cmpB d.name s) l
  · simp -implicitDefEqProofs only [code_ops, code_seq, code_cond, code_ret, ops_cons, ops_nil, aOp, opd, upd_at, upd_none, initTm_at, stepVal, stepHeap, aUn, aStore, readAt, fillA, leaf, acells_agg, cellsSet, endFn, aResults, aResult, tupled, wipe_agg, wipe_list, wipe_bool, wipe_str, wipeR_tuple, wipe_func, wipeC_list, wipeC_int, wipeC_str, isData_list_none, isData_str, isData_func, isDataL_nil, isDataL_cons, Option.map_some, Option.getD_some, List.map_cons, List.map_nil, List.length_cons, List.length_nil, List.nil_append, List.append_nil, List.getElem?_cons_zero, List.getElem?_cons_succ, List.set_cons_zero, List.take_succ_cons, List.take_zero, List.drop_succ_cons, List.drop_zero, List.take_nil, List.drop_nil, List.all_cons, List.all_nil, ↓reduceIte, Bool.and_true, Bool.not_false, Bool.false_eq_true, and_self, Nat.le_refl, reduceCtorEq, Nat.zero_add, Nat.reduceEqDiff, Nat.reduceAdd, data_Datas, outOf_val, doCall_p L hp, hp, hb, hq, zeroData]
  · have hlt := bfound_lt hq
    have hg : (l.map encData)[bloop (fun d => cmpB d.name s) l 0 l.length]? = some (encData (l[bloop (fun d => cmpB d.name s) l 0 l.length])) := by simp [hlt]
    rw [List.getElem?_eq_getElem hlt]
    generalize l[bloop (fun d => cmpB d.name s) l 0 l.length] = x at *
    simp -implicitDefEqProofs only [code_skip, code_ops, code_seq, code_cond, code_ret, ops_cons, ops_nil, aOp, opd, upd_at, upd_none, initTm_at, stepVal, stepHeap, aUn, aIndexList, aStore, readAt, leaf, acells_agg, cellsSet, endFn, aResults, aResult, tupled, wipe_agg, wipe_list, wipe_bool, wipe_str, wipeR_tuple, wipe_func, wipeC_list, wipeC_int, wipeC_str, isData_list_none, isData_str, isData_func, isDataL_nil, isDataL_cons, Option.map_some, Option.getD_some, List.map_cons, List.map_nil, List.length_cons, List.length_nil, List.nil_append, List.append_nil, List.getElem?_cons_zero, List.getElem?_cons_succ, List.set_cons_zero, List.take_succ_cons, List.take_zero, List.drop_succ_cons, List.drop_zero, List.take_nil, List.drop_nil, List.all_cons, List.all_nil, ↓reduceIte, Bool.and_true, Bool.not_true, Bool.false_eq_true, and_self, Nat.le_refl, reduceCtorEq, Nat.zero_add, Nat.reduceEqDiff, Nat.reduceAdd, Int.toNat_natCast, Int.natCast_nonneg, encData_eq, data_Datas, outOf_val, doCall_p L hp, hp, hb, hq, hg]

end Go.Abs
