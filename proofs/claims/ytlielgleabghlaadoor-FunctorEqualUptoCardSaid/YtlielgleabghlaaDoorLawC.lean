/-
  The laws Self, Through, Transitive on the abstract machine. Conditions: none.
-/
import Derived.Test.YtlielgleabghlaaDoorLawB

set_option linter.unusedVariables false
set_option linter.unusedSimpArgs false
set_option maxRecDepth 100000
set_option maxHeartbeats 4000000
namespace Go.Abs

def nmM : ByteArray := ⟨#[77]⟩
def nmT : ByteArray := ⟨#[116]⟩
def factSpec : SigSpec := ⟨[⟨nmT, 0, []⟩], []⟩

/-- What the laws need to know of names that are not permitted. -/
structure Names (ca : ByteArray → ByteArray → Bool) : Prop where
  m : ca nmM ⟨#[46, 40, 41, 35, 32]⟩ = false
  t : ca nmT ⟨#[46, 40, 41, 35, 32]⟩ = false

theorem cut_m {ca : ByteArray → ByteArray → Bool} (hN : Names ca) : cutB ca nmM = false := by
  unfold cutB
  rw [hN.m]
  rfl
theorem cut_t {ca : ByteArray → ByteArray → Bool} (hN : Names ca) : cutB ca nmT = false := by
  unfold cutB
  rw [hN.t]
  rfl

theorem fact_valid {ca : ByteArray → ByteArray → Bool} (hN : Names ca) : ValidSpec ca factSpec := by
  refine ⟨by decide, by decide, List.pairwise_singleton _ _, .nil, fun d hd => ?_, (fun v hv => by cases hv), (fun v hv => by cases hv), rfl⟩
  rw [List.mem_singleton.1 hd]
  unfold dataError
  simp [cut_t hN, firstErr]
theorem fact_match {ca : ByteArray → ByteArray → Bool} (hN : Names ca) : matchR ca factSpec factSpec nmM = ([⟨nmT, .mk 1 ⟨#[77, 46, 116]⟩ 0 []⟩], 0) := by
  have hm := match_self (fact_valid hN) (cut_m hN)
  have h2 := matchR_zero.2 hm
  have h1 := matchR_fst h2
  have h3 : matchR ca factSpec factSpec nmM = ((matchR ca factSpec factSpec nmM).1, (matchR ca factSpec factSpec nmM).2) := rfl
  rw [h3, h1, h2]
  rfl

theorem fact_fit : FitSpec factSpec ∧ SmallData factSpec := by
  refine ⟨⟨by decide, fun d hd => ?_, by decide, (fun v hv => by cases hv), by decide⟩, fun d hd => ?_⟩
  · rw [List.mem_singleton.1 hd]
    exact ⟨by decide, by decide, fun c hc => by cases hc⟩
  · rw [List.mem_singleton.1 hd]
    decide

theorem generalR_ok {ca : ByteArray → ByteArray → Bool} {a b : Scheme} (h : (generalR ca a b).2 = 0) : (generalR ca a b).1 = generalB a b := by
  unfold generalR at h ⊢
  by_cases h1 : schemeError ca a = 0
  · by_cases h2 : schemeError ca b = 0
    · rw [if_neg (by simpa using h1), if_neg (by simpa using h2)]
    · rw [if_neg (by simpa using h1), if_pos h2] at h
      exact absurd h h2
  · rw [if_pos h1] at h
    exact absurd h h1
theorem generalR_err {ca : ByteArray → ByteArray → Bool} {a b : Scheme} (h : (generalR ca a b).2 ≠ 0) : (generalR ca a b).1 = false := by
  unfold generalR at h ⊢
  by_cases h1 : schemeError ca a = 0
  · by_cases h2 : schemeError ca b = 0
    · rw [if_neg (by simpa using h1), if_neg (by simpa using h2)] at h
      exact absurd rfl h
    · rw [if_neg (by simpa using h1), if_pos h2]
  · rw [if_pos h1]

/-- A valid specification's parameters are few. -/
theorem small_of_check {ca : ByteArray → ByteArray → Bool} {s : SigSpec} (h : Abs.check ca s = 0) : SmallData s := by
  intro d hd
  have h1 := (check_iff.1 h).data d hd
  unfold dataError at h1
  by_cases h2 : d.params > 8
  · exfalso
    have h3 : ¬ d.params < 0 := by omega
    rw [if_neg h3, if_pos h2] at h1
    split at h1 <;> omega
  · omega
theorem Sig.match_any {L : Lib} {ca : ByteArray → ByteArray → Bool} (X : Sig L ca) (I S : SigSpec) (hI : FitSpec I) (hS : FitSpec S) (name : ByteArray) (hn : name.size ≤ 2 ^ 40) (h : Heap) :
    pcall L 10 [.agg [.list (I.datas.map encData) none, .list (I.vals.map encVal) none], .agg [.list (S.datas.map encData) none, .list (S.vals.map encVal) none], .str name] h =
      some (.val (.tuple [.list ((matchR ca I S name).1.map encMap) none, .int .i64 (matchR ca I S name).2]), h) := X.match_p I S hI hS small_of_check small_of_check name hn h
theorem Sig.match_anyK {L : Lib} {ca : ByteArray → ByteArray → Bool} (X : Sig L ca) (I S : SigSpec) (hI : FitSpec I) (hS : FitSpec S) (name : ByteArray) (hn : name.size ≤ 2 ^ 40) (h : Heap) :
    kCall (call L) 10 [.agg [.list (I.datas.map encData) none, .list (I.vals.map encVal) none], .agg [.list (S.datas.map encData) none, .list (S.vals.map encVal) none], .str name] h =
      some (.val (.tuple [.list ((matchR ca I S name).1.map encMap) (ownAt h.length (matchR ca I S name).1.length), .int .i64 (matchR ca I S name).2]), h ++ tailAt 5 (matchR ca I S name).1.length) := X.match_k I S hI hS small_of_check small_of_check name hn h
section
variable {L : Lib} {ca : ByteArray → ByteArray → Bool} (X : Sig L ca) (hN : Names ca)
include X hN
theorem Sig.fact (h : Heap) : pcall L 11 [] h = some (.val (.bool true), h) := by
  have hp := X.plain.pure
  have h1 := X.match_ok factSpec factSpec fact_fit.1 fact_fit.1 fact_fit.2 fact_fit.2 nmM (by decide)
  rw [fact_match hN] at h1
  unfold factSpec nmM nmT at h1
  simp only [List.map_cons, List.map_nil, encData_eq, encMap_eq, Ty.kind_mk, Ty.name_mk, Ty.var_mk, Ty.args_mk] at h1
  refine pcall_fn X.plain X.f11 rfl ?_ h
  unfold fn11
  simp -implicitDefEqProofs only [code_ops, code_seq, code_ret, ops_cons, ops_cons_g, ops_nil, aOp, opd, upd_at, upd_none, initTm_at, stepVal, stepHeap, aBin, aStr, aLen, aInt, aIndexList, isShift, aWanted, aLoad1, aStore, readAt, aField, fillA, known, leaf, acells_agg, acells_str, acells_list, cellsSet, endFn, aResults, aResult, tupled, wipe_agg, wipe_str, wipeR_bool, wipeC_list, wipeC_int, wipeC_str, isData_list_none, isData_int, isData_str, isData_agg, isDataL_nil, isDataL_cons, beq_self_eq_true, Option.map_some, Option.getD_none, List.map_cons, List.map_nil, List.length_cons, List.length_nil, List.cons_append, List.nil_append, List.append_nil, List.getElem?_nil, List.getElem?_cons_zero, List.getElem?_cons_succ, List.set_cons_zero, List.take_succ_cons, List.take_zero, List.drop_succ_cons, List.drop_zero, List.take_nil, List.drop_nil, List.all_cons, List.all_nil, ↓reduceIte, Bool.and_true, Bool.false_eq_true, decide_true, and_self, Nat.le_refl, Nat.add_zero, Nat.zero_add, Nat.reduceEqDiff, Nat.reduceAdd, Nat.reduceLeDiff, Int.reduceToNat, Int.reduceLE, Int.cast_ofNat_Int, onlyVal, outOf_val, h1, doCall_p L hp, hp]

end
end Go.Abs
