/-
  The laws Self, Through, Transitive on the abstract machine. Conditions: none.
-/
import Derived.Test.YtlielgleabghlaaDoorLawB

set_option linter.unusedVariables false
set_option linter.unusedSimpArgs false
set_option maxRecDepth 100000
set_option maxHeartbeats 4000000
namespace Go.Abs

def nmM : ByteArray := ⟨#[77]⟩
def nmT : ByteArray := ⟨#[116]⟩
def factSpec : SigSpec := ⟨[⟨nmT, 0, []⟩], []⟩

/-- What the laws need to know of names that are not permitted. -/
structure Names (ca : ByteArray → ByteArray → Bool) : Prop where
  m : ca nmM ⟨#[46, 40, 41, 35, 32]⟩ = false
  t : ca nmT ⟨#[46, 40, 41, 35, 32]⟩ = false

theorem cut_m {ca : ByteArray → ByteArray → Bool} (hN : Names ca) : cutB ca nmM = false := by
  unfold cutB
  rw [hN.m]
  rfl
theorem cut_t {ca : ByteArray → ByteArray → Bool} (hN : Names ca) : cutB ca nmT = false := by
  unfold cutB
  rw [hN.t]
  rfl

theorem fact_valid {ca : ByteArray → ByteArray → Bool} (hN : Names ca) : ValidSpec ca factSpec := by
  refine ⟨by decide, by decide, List.pairwise_singleton _ _, .nil, fun d hd => ?_, (fun v hv => by cases hv), (fun v hv => by cases hv), rfl⟩
  rw [List.mem_singleton.1 hd]
  unfold dataError
  simp [cut_t hN, firstErr]
theorem fact_match {ca : ByteArray → ByteArray → Bool} (hN : Names ca) : matchR ca factSpec factSpec nmM = ([⟨nmT, .mk 1 ⟨#[77, 46, 116]⟩ 0 []⟩], 0) := by
  have hm := match_self (fact_valid hN) (cut_m hN)
  have h2 := matchR_zero.2 hm
  have h1 := matchR_fst h2
  have h3 : matchR ca factSpec factSpec nmM = ((matchR ca factSpec factSpec nmM).1, (matchR ca factSpec factSpec nmM).2) := rfl
  rw [h3, h1, h2]
  rfl

theorem fact_fit : FitSpec factSpec ∧ SmallData factSpec := by
  refine ⟨⟨by decide, fun d hd => ?_, by decide, (fun v hv => by cases hv), by decide⟩, fun d hd => ?_⟩
  · rw [List.mem_singleton.1 hd]
    exact ⟨by decide, by decide, fun c hc => by cases hc⟩
  · rw [List.mem_singleton.1 hd]
    decide

theorem generalR_ok {ca : ByteArray → ByteArray → Bool} {a b : Scheme} (h : (generalR ca a b).2 = 0) : (generalR ca a b).1 = generalB a b := by
  unfold generalR at h ⊢
  by_cases h1 : schemeError ca a = 0
  · by_cases h2 : schemeError ca b = 0
    · rw [if_neg (by simpa using h1), if_neg (by simpa using h2)]
    · rw [if_neg (by simpa using h1), if_pos h2] at h
      exact absurd h h2
  · rw [if_pos h1] at h
    exact absurd h h1
theorem generalR_err {ca : ByteArray → ByteArray → Bool} {a b : Scheme} (h : (generalR ca a b).2 ≠ 0) : (generalR ca a b).1 = false := by
  unfold generalR at h ⊢
  by_cases h1 : schemeError ca a = 0
  · by_cases h2 : schemeError ca b = 0
    · rw [if_neg (by simpa using h1), if_neg (by simpa using h2)] at h
      exact absurd rfl h
    · rw [if_neg (by simpa using h1), if_pos h2]
  · rw [if_pos h1]

/-- A valid specification's parameters are few. -/
theorem small_of_check {ca : ByteArray → ByteArray → Bool} {s : SigSpec} (h : Abs.check ca s = 0) : SmallData s := by
  intro d hd
  have h1 := (check_iff.1 h).data d hd
  unfold dataError at h1
  by_cases h2 : d.params > 8
  · exfalso
    have h3 : ¬ d.params < 0 := by omega
    rw [if_neg h3, if_pos h2] at h1
    split at h1 <;> omega
  · omega
theorem Sig.match_any {L : Lib} {ca : ByteArray → ByteArray → Bool} (X : Sig L ca) (I S : SigSpec) (hI : FitSpec I) (hS : FitSpec S) (name : ByteArray) (hn : name.size ≤ 2 ^ 40) (h : Heap) :
    pcall L 10 [.agg [.list (I.datas.map encData) none, .list (I.vals.map encVal) none], .agg [.list (S.datas.map encData) none, .list (S.vals.map encVal) none], .str name] h =
      some (.val (.tuple [.list ((matchR ca I S name).1.map encMap) none, .int .i64 (matchR ca I S name).2]), h) := X.match_p I S hI hS small_of_check small_of_check name hn h
theorem Sig.match_anyK {L : Lib} {ca : ByteArray → ByteArray → Bool} (X : Sig L ca) (I S : SigSpec) (hI : FitSpec I) (hS : FitSpec S) (name : ByteArray) (hn : name.size ≤ 2 ^ 40) (h : Heap) :
    kCall (call L) 10 [.agg [.list (I.datas.map encData) none, .list (I.vals.map encVal) none], .agg [.list (S.datas.map encData) none, .list (S.vals.map encVal) none], .str name] h =
      some (.val (.tuple [.list ((matchR ca I S name).1.map encMap) (ownAt h.length (matchR ca I S name).1.length), .int .i64 (matchR ca I S name).2]), h ++ tailAt 5 (matchR ca I S name).1.length) := X.match_k I S hI hS small_of_check small_of_check name hn h
section
variable {L : Lib} {ca : ByteArray → ByteArray → Bool} (X : Sig L ca) (hN : Names ca)
include X hN
theorem Sig.fact (h : Heap) : pcall L 11 [] h = some (.val (.bool true), h) := by
  have hp := X.plain.pure
  have h1 := X.match_ok factSpec factSpec fact_fit.1 fact_fit.1 fact_fit.2 fact_fit.2 nmM (by decide)
  rw [fact_match hN] at h1
  unfold factSpec nmM nmT at h1
  simp only [List.map_cons, List.map_nil, encData_eq, encMap_eq, Ty.kind_mk, Ty.name_mk, Ty.var_mk, Ty.args_mk] at h1
  refine pcall_fn X.plain X.f11 rfl ?_ h
  unfold fn11
  simp -implicitDefEqProofs only [code_ops, code_seq, code_ret, ops_cons, ops_cons_g, ops_nil, aOp, opd, upd_at, upd_none, initTm_at, stepVal, stepHeap, aBin, aStr, aLen, aInt, aIndexList, isShift, aWanted, aLoad1, aStore, readAt, aField, fillA, known, leaf, acells_agg, acells_str, acells_list, cellsSet, endFn, aResults, aResult, tupled, wipe_agg, wipe_str, wipeR_bool, wipeC_list, wipeC_int, wipeC_str, isData_list_none, isData_int, isData_str, isData_agg, isDataL_nil, isDataL_cons, beq_self_eq_true, Option.map_some, Option.getD_none, List.map_cons, List.map_nil, List.length_cons, List.length_nil, List.cons_append, List.nil_append, List.append_nil, List.getElem?_nil, List.getElem?_cons_zero, List.getElem?_cons_succ, List.set_cons_zero, List.take_succ_cons, List.take_zero, List.drop_succ_cons, List.drop_zero, List.take_nil, List.drop_nil, List.all_cons, List.all_nil, ↓reduceIte, Bool.and_true, Bool.false_eq_true, decide_true, and_self, Nat.le_refl, Nat.add_zero, Nat.zero_add, Nat.reduceEqDiff, Nat.reduceAdd, Nat.reduceLeDiff, Int.reduceToNat, Int.reduceLE, Int.cast_ofNat_Int, onlyVal, outOf_val, h1, doCall_p L hp, hp]

theorem Sig.self (f0 : L.fns 0 = some fn0) (s : SigSpec) (hs : FitSpec s) (h : Heap) : pcall L 0 [.agg [.list (s.datas.map encData) none, .list (s.vals.map encVal) none]] h = some (.val (.bool true), h) := by
  have hp := X.plain.pure
  have hf := X.fact hN
  have h1 := X.match_any s s hs hs nmM (by decide)
  have h2 := X.check hs
  have e1 : (matchR ca s s nmM).2 = 0 → (matchR ca s s nmM).1.length = s.datas.length := fun h => by rw [matchR_fst h]; simp
  have e2 : (matchR ca s s nmM).2 ≠ 0 → (matchR ca s s nmM).2 = Abs.check ca s := fun h => by
    by_cases hc : Abs.check ca s = 0
    · exact absurd (matchR_zero.2 (match_self (check_iff.1 hc) (cut_m hN))) h
    · unfold matchR
      rw [if_pos hc]
  unfold nmM at h1 e1 e2
  generalize matchR ca s s ⟨#[77]⟩ = r at *
  obtain ⟨l, e⟩ := r
  dsimp only at h1 e1 e2
  refine pcall_fn X.plain f0 rfl ?_ h
  unfold fn0
  by_cases h0 : e = 0
  · subst h0
    have e1 := e1 rfl
    simp -implicitDefEqProofs only [code_skip, code_ops, code_seq, code_cond, code_ret, ops_cons, ops_cons_g, ops_nil, aOp, opd, upd_at, initTm_at, stepVal, aBin, aLen, aInt, isShift, aWanted, aLoad1, readAt, aField, acells_agg, endFn, aResults, aResult, tupled, wipe_agg, wipe_str, wipeR_bool, wipeC_list, isData_list_none, isData_str, isData_agg, isDataL_nil, isDataL_cons, beq_self_eq_true, Option.map_some, Option.getD_some, List.map_cons, List.map_nil, List.length_cons, List.length_nil, List.length_map, List.nil_append, List.getElem?_cons_zero, List.getElem?_cons_succ, List.take_succ_cons, List.drop_zero, List.take_nil, ↓reduceIte, Bool.and_true, Bool.not_true, Bool.false_eq_true, and_self, Nat.le_refl, Nat.add_zero, Nat.zero_add, Nat.reduceEqDiff, Nat.reduceAdd, onlyVal, data_Datas, data_Vals, outOf_val, h1, hf, e1, doCall_p L hp, hp, bne]
  · have h0' : (e == 0) = false := by simpa using h0
    have e2 := e2 h0
    have h3 : (e == Abs.check ca s) = true := by simpa using e2
    simp -implicitDefEqProofs only [code_ops, code_seq, code_cond, code_ret, ops_cons, ops_cons_g, ops_nil, aOp, opd, upd_at, initTm_at, stepVal, aBin, aInt, isShift, aWanted, readAt, acells_agg, endFn, aResults, aResult, tupled, wipe_agg, wipe_str, wipeR_bool, wipeC_list, isData_list_none, isData_str, isData_agg, isDataL_nil, isDataL_cons, beq_self_eq_true, Option.map_some, Option.getD_some, List.map_cons, List.map_nil, List.length_cons, List.length_nil, List.nil_append, List.getElem?_cons_zero, List.getElem?_cons_succ, List.take_succ_cons, List.drop_zero, List.take_nil, ↓reduceIte, Bool.and_true, Bool.not_false, Bool.false_eq_true, and_self, Nat.le_refl, Nat.zero_add, Nat.reduceEqDiff, Nat.reduceAdd, onlyVal, data_Datas, data_Vals, outOf_val, h1, h2, hf, h0', h3, doCall_p L hp, hp, bne]

theorem Sig.through (f1 : L.fns 1 = some fn1) (a b c : SigSpec) (ha : FitSpec a) (hb : FitSpec b) (hc : FitSpec c) (h : Heap) :
    pcall L 1 [.agg [.list (a.datas.map encData) none, .list (a.vals.map encVal) none], .agg [.list (b.datas.map encData) none, .list (b.vals.map encVal) none], .agg [.list (c.datas.map encData) none, .list (c.vals.map encVal) none]] h = some (.val (.bool true), h) := by
  have hp := X.plain.pure
  have hf := X.fact hN
  have h1 := X.match_any a b ha hb nmM (by decide)
  have h2 := X.match_any b c hb hc nmM (by decide)
  have h3 := X.match_any a c ha hc nmM (by decide)
  have e1 : (matchR ca a b nmM).2 = 0 → (matchR ca b c nmM).2 = 0 → (matchR ca a c nmM).2 = 0 := fun h h' => matchR_zero.2 (match_trans (matchR_zero.1 h) (matchR_zero.1 h'))
  unfold nmM at h1 h2 h3 e1
  generalize matchR ca a b ⟨#[77]⟩ = r1 at *
  generalize matchR ca b c ⟨#[77]⟩ = r2 at *
  generalize matchR ca a c ⟨#[77]⟩ = r3 at *
  obtain ⟨l1, v1⟩ := r1
  obtain ⟨l2, v2⟩ := r2
  obtain ⟨l3, v3⟩ := r3
  dsimp only at h1 h2 h3 e1
  refine pcall_fn X.plain f1 rfl ?_ h
  unfold fn1
  by_cases h0 : v1 = 0
  · subst h0
    by_cases h0 : v2 = 0
    · subst h0
      obtain rfl := e1 rfl rfl
      simp -implicitDefEqProofs only [code_skip, code_ops, code_seq, code_cond, code_ret, ops_cons, ops_cons_g, ops_nil, aOp, opd, upd_at, initTm_at, stepVal, aBin, aInt, isShift, aWanted, readAt, acells_agg, endFn, aResults, aResult, tupled, wipe_agg, wipe_str, wipeR_bool, wipeC_list, isData_list_none, isData_str, isData_agg, isDataL_nil, isDataL_cons, beq_self_eq_true, Option.map_some, Option.getD_some, List.map_cons, List.map_nil, List.length_cons, List.length_nil, List.cons_append, List.nil_append, List.getElem?_cons_zero, List.getElem?_cons_succ, List.take_succ_cons, List.drop_zero, List.take_nil, ↓reduceIte, Bool.and_true, Bool.not_true, Bool.false_eq_true, and_self, Nat.le_refl, Nat.zero_add, Nat.reduceEqDiff, Nat.reduceAdd, onlyVal, data_Datas, data_Vals, outOf_val, h1, h2, h3, hf, doCall_p L hp, hp, bne]
    · have h0' : (v2 == 0) = false := by simpa using h0
      simp -implicitDefEqProofs only [code_ops, code_seq, code_cond, code_ret, ops_cons, ops_cons_g, ops_nil, aOp, opd, upd_at, initTm_at, stepVal, aBin, aInt, isShift, aWanted, readAt, acells_agg, endFn, aResults, aResult, tupled, wipe_agg, wipe_str, wipeR_bool, wipeC_list, isData_list_none, isData_str, isData_agg, isDataL_nil, isDataL_cons, beq_self_eq_true, Option.map_some, Option.getD_some, List.map_cons, List.map_nil, List.length_cons, List.length_nil, List.cons_append, List.nil_append, List.getElem?_cons_zero, List.getElem?_cons_succ, List.take_succ_cons, List.drop_zero, List.take_nil, ↓reduceIte, Bool.and_true, Bool.not_true, Bool.not_false, Bool.false_eq_true, and_self, Nat.le_refl, Nat.zero_add, Nat.reduceEqDiff, Nat.reduceAdd, onlyVal, data_Datas, data_Vals, outOf_val, h1, h2, h3, hf, h0', doCall_p L hp, hp, bne]
  · have h0' : (v1 == 0) = false := by simpa using h0
    simp -implicitDefEqProofs only [code_ops, code_seq, code_cond, code_ret, ops_cons, ops_cons_g, ops_nil, aOp, opd, upd_at, initTm_at, stepVal, aBin, aInt, isShift, aWanted, readAt, acells_agg, endFn, aResults, aResult, tupled, wipe_agg, wipe_str, wipeR_bool, wipeC_list, isData_list_none, isData_str, isData_agg, isDataL_nil, isDataL_cons, beqTF, Option.map_some, Option.getD_some, List.map_cons, List.map_nil, List.length_cons, List.length_nil, List.cons_append, List.nil_append, List.getElem?_cons_zero, List.getElem?_cons_succ, List.take_succ_cons, List.drop_zero, List.take_nil, ↓reduceIte, Bool.and_true, Bool.not_false, Bool.false_eq_true, and_self, Nat.le_refl, Nat.zero_add, Nat.reduceEqDiff, Nat.reduceAdd, onlyVal, data_Datas, data_Vals, outOf_val, h1, h2, h3, hf, h0', doCall_p L hp, hp, bne]

theorem Sig.transitive (f3 : L.fns 3 = some fn3) (a b c : Scheme) (ha : FitScheme a) (hb : FitScheme b) (hc : FitScheme c) (h : Heap) :
    pcall L 3 [.agg (sCells a), .agg (sCells b), .agg (sCells c)] h = some (.val (.bool true), h) := by
  have hp := X.plain.pure
  have hf := X.fact hN
  have h1 := X.generalE a b ha hb
  have h2 := X.generalE b c hb hc
  have h3 := X.generalE a c ha hc
  have e1 : (generalR ca a b).2 = 0 → (generalR ca b c).2 = 0 → (generalR ca a c).2 = 0 → (generalR ca a b).1 = true → (generalR ca b c).1 = true → (generalR ca a c).1 = true := fun g1 g2 g3 g4 g5 => by
    rw [generalR_ok g1] at g4
    rw [generalR_ok g2] at g5
    rw [generalR_ok g3]
    exact general_trans g4 g5
  have e2 : (generalR ca a b).2 ≠ 0 → (generalR ca a b).1 = false := generalR_err
  unfold sCells at h1 h2 h3 ⊢
  generalize generalR ca a b = r1 at *
  generalize generalR ca b c = r2 at *
  generalize generalR ca a c = r3 at *
  obtain ⟨l1, v1⟩ := r1
  obtain ⟨l2, v2⟩ := r2
  obtain ⟨l3, v3⟩ := r3
  dsimp only at h1 h2 h3 e1 e2
  refine pcall_fn X.plain f3 rfl ?_ h
  unfold fn3
  by_cases h0 : v1 = 0
  · subst h0
    by_cases h0 : v2 = 0
    · subst h0
      by_cases h0 : v3 = 0
      · subst h0
        have e1 := e1 rfl rfl rfl
        cases l1
        · simp -implicitDefEqProofs only [code_skip, code_ops, code_seq, code_cond, code_ret, ops_cons, ops_cons_g, ops_nil, aOp, opd, upd_at, initTm_at, stepVal, aBin, aInt, aUn, isShift, aWanted, readAt, acells_agg, endFn, aResults, aResult, tupled, wipe_agg, wipeR_bool, wipeC_list, wipeC_int, wipeC_str, isData_list_none, isData_int, isData_str, isData_agg, isDataL_nil, isDataL_cons, beqTF, beq_self_eq_true, Option.map_some, Option.getD_some, List.map_cons, List.map_nil, List.length_cons, List.length_nil, List.cons_append, List.nil_append, List.getElem?_cons_zero, List.getElem?_cons_succ, List.take_succ_cons, List.drop_zero, List.take_nil, ↓reduceIte, Bool.and_true, Bool.not_true, Bool.not_false, Bool.false_eq_true, and_self, Nat.le_refl, Nat.zero_add, Nat.reduceEqDiff, Nat.reduceAdd, onlyVal, data_Tys, data_Preds, outOf_val, h1, h2, h3, hf, doCall_p L hp, hp, bne]
        · cases l2
          · simp -implicitDefEqProofs only [code_skip, code_ops, code_seq, code_cond, code_ret, ops_cons, ops_cons_g, ops_nil, aOp, opd, upd_at, initTm_at, stepVal, aBin, aInt, aUn, isShift, aWanted, readAt, acells_agg, endFn, aResults, aResult, tupled, wipe_agg, wipeR_bool, wipeC_list, wipeC_int, wipeC_str, isData_list_none, isData_int, isData_str, isData_agg, isDataL_nil, isDataL_cons, beqTF, beq_self_eq_true, Option.map_some, Option.getD_some, List.map_cons, List.map_nil, List.length_cons, List.length_nil, List.cons_append, List.nil_append, List.getElem?_cons_zero, List.getElem?_cons_succ, List.take_succ_cons, List.drop_zero, List.take_nil, ↓reduceIte, Bool.and_true, Bool.not_true, Bool.not_false, Bool.false_eq_true, and_self, Nat.le_refl, Nat.zero_add, Nat.reduceEqDiff, Nat.reduceAdd, onlyVal, data_Tys, data_Preds, outOf_val, h1, h2, h3, hf, doCall_p L hp, hp, bne]
          · obtain rfl := e1 rfl rfl
            simp -implicitDefEqProofs only [code_skip, code_ops, code_seq, code_cond, code_ret, ops_cons, ops_cons_g, ops_nil, aOp, opd, upd_at, initTm_at, stepVal, aBin, aInt, aUn, isShift, aWanted, readAt, acells_agg, endFn, aResults, aResult, tupled, wipe_agg, wipeR_bool, wipeC_list, wipeC_int, wipeC_str, isData_list_none, isData_int, isData_str, isData_agg, isDataL_nil, isDataL_cons, beq_self_eq_true, Option.map_some, Option.getD_some, List.map_cons, List.map_nil, List.length_cons, List.length_nil, List.cons_append, List.nil_append, List.getElem?_cons_zero, List.getElem?_cons_succ, List.take_succ_cons, List.drop_zero, List.take_nil, ↓reduceIte, Bool.and_true, Bool.not_true, Bool.false_eq_true, and_self, Nat.le_refl, Nat.zero_add, Nat.reduceEqDiff, Nat.reduceAdd, onlyVal, data_Tys, data_Preds, outOf_val, h1, h2, h3, hf, doCall_p L hp, hp, bne]
      · have h0' : (v3 == 0) = false := by simpa using h0
        cases l1 <;> simp -implicitDefEqProofs only [code_ops, code_seq, code_cond, code_ret, ops_cons, ops_cons_g, ops_nil, aOp, opd, upd_at, initTm_at, stepVal, aBin, aInt, aUn, isShift, aWanted, readAt, acells_agg, endFn, aResults, aResult, tupled, wipe_agg, wipeR_bool, wipeC_list, wipeC_int, wipeC_str, isData_list_none, isData_int, isData_str, isData_agg, isDataL_nil, isDataL_cons, beqFT, beq_self_eq_true, Option.map_some, Option.getD_some, List.map_cons, List.map_nil, List.length_cons, List.length_nil, List.cons_append, List.nil_append, List.getElem?_cons_zero, List.getElem?_cons_succ, List.take_succ_cons, List.drop_zero, List.take_nil, ↓reduceIte, Bool.and_true, Bool.not_true, Bool.not_false, Bool.false_eq_true, and_self, Nat.le_refl, Nat.zero_add, Nat.reduceEqDiff, Nat.reduceAdd, onlyVal, data_Tys, data_Preds, outOf_val, h1, h2, h3, hf, h0', doCall_p L hp, hp, bne]
    · have h0' : (v2 == 0) = false := by simpa using h0
      cases l1 <;> simp -implicitDefEqProofs only [code_ops, code_seq, code_cond, code_ret, ops_cons, ops_cons_g, ops_nil, aOp, opd, upd_at, initTm_at, stepVal, aBin, aInt, aUn, isShift, aWanted, readAt, acells_agg, endFn, aResults, aResult, tupled, wipe_agg, wipeR_bool, wipeC_list, wipeC_int, wipeC_str, isData_list_none, isData_int, isData_str, isData_agg, isDataL_nil, isDataL_cons, beqTF, beqFT, beq_self_eq_true, Option.map_some, Option.getD_some, List.map_cons, List.map_nil, List.length_cons, List.length_nil, List.cons_append, List.nil_append, List.getElem?_cons_zero, List.getElem?_cons_succ, List.take_succ_cons, List.drop_zero, List.take_nil, ↓reduceIte, Bool.and_true, Bool.not_true, Bool.not_false, Bool.false_eq_true, and_self, Nat.le_refl, Nat.zero_add, Nat.reduceEqDiff, Nat.reduceAdd, onlyVal, data_Tys, data_Preds, outOf_val, h1, h2, h3, hf, h0', doCall_p L hp, hp, bne]
  · have h0' : (v1 == 0) = false := by simpa using h0
    have e2 := e2 h0
    subst e2
    simp -implicitDefEqProofs only [code_ops, code_seq, code_cond, code_ret, ops_cons, ops_cons_g, ops_nil, aOp, opd, upd_at, initTm_at, stepVal, aBin, aInt, aUn, isShift, aWanted, readAt, acells_agg, endFn, aResults, aResult, tupled, wipe_agg, wipeR_bool, wipeC_list, wipeC_int, wipeC_str, isData_list_none, isData_int, isData_str, isData_agg, isDataL_nil, isDataL_cons, beqTF, beqFT, beq_self_eq_true, Option.map_some, Option.getD_some, List.map_cons, List.map_nil, List.length_cons, List.length_nil, List.cons_append, List.nil_append, List.getElem?_cons_zero, List.getElem?_cons_succ, List.take_succ_cons, List.drop_zero, List.take_nil, ↓reduceIte, Bool.and_true, Bool.not_false, Bool.false_eq_true, and_self, Nat.le_refl, Nat.zero_add, Nat.reduceEqDiff, Nat.reduceAdd, onlyVal, data_Tys, data_Preds, outOf_val, h1, h2, h3, hf, h0', doCall_p L hp, hp, bne]
end
end Go.Abs
