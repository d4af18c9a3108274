/-
  The functions of package signature, together: what Match, General and CheckFunctor answer. Conditions: none.
-/
import Derived.Test.YtlielgleabghlaaDoorSigW
import Derived.Test.YtlielgleabghlaaDoorSigS
import Derived.Test.YtlielgleabghlaaDoorSigO

set_option linter.unusedVariables false
set_option linter.unusedSimpArgs false
set_option maxRecDepth 100000
set_option maxHeartbeats 4000000
namespace Go.Abs

/-- A library that holds the functions. -/
structure Sig (L : Lib) (ca : ByteArray → ByteArray → Bool) : Prop where
  plain : Plain L
  prims : Prims L ca
  f10 : L.fns 10 = some fn10
  f11 : L.fns 11 = some fn11
  f12 : L.fns 12 = some fn12
  f13 : L.fns 13 = some fn13
  f15 : L.fns 15 = some fn15
  f16 : L.fns 16 = some fn16
  f17 : L.fns 17 = some fn17
  f19 : L.fns 19 = some fn19
  f28 : L.fns 28 = some fn28
  f29 : L.fns 29 = some fn29
  f30 : L.fns 30 = some fn30
  f31 : L.fns 31 = some fn31
  f32 : L.fns 32 = some fn32
  f33 : L.fns 33 = some fn33
  f35 : L.fns 35 = some fn35
  f36 : L.fns 36 = some fn36
  f37 : L.fns 37 = some fn37
  f38 : L.fns 38 = some fn38
  f39 : L.fns 39 = some fn39
  f40 : L.fns 40 = some fn40
  f41 : L.fns 41 = some fn41
  f42 : L.fns 42 = some fn42
  f43 : L.fns 43 = some fn43
  f44 : L.fns 44 = some fn44
  f45 : L.fns 45 = some fn45
  f49 : L.fns 49 = some fn49
  f51 : L.fns 51 = some fn51
  f52 : L.fns 52 = some fn52
  f53 : L.fns 53 = some fn53
  f55 : L.fns 55 = some fn55
  f56 : L.fns 56 = some fn56
  f57 : L.fns 57 = some fn57
  f58 : L.fns 58 = some fn58
  f59 : L.fns 59 = some fn59
  f60 : L.fns 60 = some fn60
  f61 : L.fns 61 = some fn61
  f62 : L.fns 62 = some fn62
  f63 : L.fns 63 = some fn63
  f64 : L.fns 64 = some fn64
  f67 : L.fns 67 = some fn67
  f68 : L.fns 68 = some fn68
  f70 : L.fns 70 = some fn70
  f71 : L.fns 71 = some fn71
  f73 : L.fns 73 = some fn73
  f74 : L.fns 74 = some fn74
  f75 : L.fns 75 = some fn75

/-- Every list in it is short. -/
structure FitSpec (s : SigSpec) : Prop where
  datas : s.datas.length < 2 ^ 30
  data : ∀ d ∈ s.datas, FitData d
  vals : s.vals.length < 2 ^ 30
  val : ∀ v ∈ s.vals, FitScheme v.scheme
  types : (typesOf s).length < 2 ^ 30

theorem FitSpec.tys {s : SigSpec} (h : FitSpec s) : ∀ t ∈ typesOf s, TyFit t := by
  intro t ht
  unfold typesOf dataTypes valTypes consTypes predTypes at ht
  rcases List.mem_append.1 ht with ht | ht
  · obtain ⟨d, hd, ht⟩ := List.mem_flatMap.1 ht
    obtain ⟨c, hc, ht⟩ := List.mem_flatMap.1 ht
    exact ((h.data d hd).2.2 c hc).2 t ht
  · obtain ⟨v, hv, ht⟩ := List.mem_flatMap.1 ht
    rcases List.mem_append.1 ht with ht | ht
    · obtain ⟨p, hp, rfl⟩ := List.mem_map.1 ht
      exact (h.val v hv).2.2 p hp
    · rw [List.mem_singleton.1 ht]
      exact (h.val v hv).2.1

section
variable {L : Lib} {ca : ByteArray → ByteArray → Bool} (S : Sig L ca)
include S

theorem Sig.kinds (l : List DataSig) (hl : l.length < 2 ^ 30) {s : SigSpec} (hs : FitSpec s) (h : Heap) :
    pcall L 39 [.list (l.map encData) none, .agg [.list (s.datas.map encData) none, .list (s.vals.map encVal) none]] h = some (.val (.int .i64 (kindsError l s)), h) :=
  kindsError_ok S.plain S.prims S.f68 S.f67 S.f49 S.f61 S.f39 l hl s hs.datas (fun d hd => (hs.data d hd).1) hs.vals (fun v hv => (hs.val v hv).1) hs.types hs.tys h
theorem Sig.cut (n : ByteArray) (h : Heap) : pcall L 29 [.str n] h = some (.val (.bool (cutB ca n)), h) := cut_ok S.plain S.f29 S.prims.any n h
theorem Sig.scheme (s : Scheme) (hs : s.preds.length < 2 ^ 30) (h : Heap) : pcall L 38 [.agg (sCells s)] h = some (.val (.int .i64 (schemeError ca s)), h) :=
  schemeError_ok S.plain S.prims S.f29 S.f60 S.f75 S.f38 s hs h
theorem Sig.check {s : SigSpec} (hs : FitSpec s) (h : Heap) : pcall L 12 [.agg [.list (s.datas.map encData) none, .list (s.vals.map encVal) none]] h = some (.val (.int .i64 (check ca s)), h) :=
  check_ok' S.plain (fun d hd h => dataError_ok S.plain S.prims S.f29 S.f60 S.f75 S.f58 S.f74 S.f59 S.f37 d hd h) (S.cut) (fun s hs h => S.scheme s hs h) S.f12 s hs.datas (fun d hd => (hs.data d hd).1) hs.vals (fun v hv => (hs.val v hv).1) (S.kinds s.datas hs.datas hs) h
theorem Sig.general (a b : Scheme) (ha : FitScheme a) (hb : FitScheme b) (h : Heap) : pcall L 35 [.agg (sCells a), .agg (sCells b)] h = some (.val (.bool (generalB a b)), h) :=
  general_ok S.plain S.f70 S.f71 S.f55 S.f57 S.f73 S.f56 S.f35 a b ha hb h
theorem Sig.sameType (a b : Ty) (ha : TyFit a) (h : Heap) : pcall L 71 [.agg [.int .i64 a.kind, .str a.name, .int .i64 a.var, .list (a.args.map encTy) none], .agg [.int .i64 b.kind, .str b.name, .int .i64 b.var, .list (b.args.map encTy) none]] h = some (.val (.bool (Abs.sameType a b)), h) :=
  same_ok S.plain S.f71 S.f70 a ha b h

def generalR (ca : ByteArray → ByteArray → Bool) (a b : Scheme) : Bool × Int :=
  if schemeError ca a ≠ 0 then (false, schemeError ca a) else if schemeError ca b ≠ 0 then (false, schemeError ca b) else (generalB a b, 0)
theorem Sig.generalE (a b : Scheme) (ha : FitScheme a) (hb : FitScheme b) (h : Heap) : pcall L 17 [.agg (sCells a), .agg (sCells b)] h = some (.val (.tuple [.bool (generalR ca a b).1, .int .i64 (generalR ca a b).2]), h) := by
  have hp := S.plain.pure
  have h1 := S.scheme a ha.1
  have h2 := S.scheme b hb.1
  have h3 := S.general a b ha hb
  refine pcall_fn S.plain S.f17 rfl ?_ h
  unfold generalR
  unfold sCells at h1 h2 h3 ⊢
  unfold fn17
  by_cases e1 : schemeError ca a = 0
  · by_cases e2 : schemeError ca b = 0
    · simp -implicitDefEqProofs only [code_skip, code_ops, code_seq, code_cond, code_ret, ops_cons, ops_nil, aOp, opd, upd_at, initTm_at, stepVal, aBin, aInt, isShift, readAt, acells_agg, endFn, aResults, aResult, tupled, wipe_agg, wipe_bool, wipe_int, wipeR_tuple, wipeC_list, wipeC_int, wipeC_str, isData_list_none, isData_int, isData_str, isData_agg, isDataL_nil, isDataL_cons, beq_self_eq_true, Option.map_some, Option.getD_some, List.map_cons, List.map_nil, List.length_cons, List.length_nil, List.cons_append, List.nil_append, List.getElem?_cons_zero, List.getElem?_cons_succ, List.take_succ_cons, List.drop_zero, List.take_nil, ↓reduceIte, Bool.and_true, Bool.not_true, Bool.false_eq_true, not_true_eq_false, and_self, Nat.le_refl, Nat.zero_add, Nat.reduceEqDiff, Nat.reduceAdd, ne_eq, onlyVal, data_Tys, data_Preds, outOf_val, h1, h2, h3, e1, e2, doCall_p L hp, hp, ne_eq, not_true_eq_false, bne]
    · have e2' : (schemeError ca b == 0) = false := by simpa using e2
      simp -implicitDefEqProofs only [code_skip, code_ops, code_seq, code_cond, code_ret, ops_cons, ops_nil, aOp, opd, upd_at, initTm_at, stepVal, aBin, aInt, isShift, readAt, acells_agg, endFn, aResults, aResult, tupled, wipe_agg, wipe_bool, wipe_int, wipeR_tuple, wipeC_list, wipeC_int, wipeC_str, isData_list_none, isData_int, isData_str, isData_agg, isDataL_nil, isDataL_cons, beq_self_eq_true, Option.map_some, Option.getD_some, List.map_cons, List.map_nil, List.length_cons, List.length_nil, List.cons_append, List.nil_append, List.getElem?_cons_zero, List.getElem?_cons_succ, List.take_succ_cons, List.drop_zero, List.take_nil, ↓reduceIte, Bool.and_true, Bool.not_true, Bool.not_false, Bool.false_eq_true, not_true_eq_false, not_false_eq_true, and_self, Nat.le_refl, Nat.zero_add, Nat.reduceEqDiff, Nat.reduceAdd, ne_eq, onlyVal, data_Tys, data_Preds, outOf_val, h1, h2, h3, e1, e2, e2', doCall_p L hp, hp, ne_eq, not_true_eq_false, not_false_eq_true, bne]
  · have e1' : (schemeError ca a == 0) = false := by simpa using e1
    simp -implicitDefEqProofs only [code_ops, code_seq, code_cond, code_ret, ops_cons, ops_nil, aOp, opd, upd_at, initTm_at, stepVal, aBin, aInt, isShift, readAt, acells_agg, endFn, aResults, aResult, tupled, wipe_agg, wipe_bool, wipe_int, wipeR_tuple, wipeC_list, wipeC_int, wipeC_str, isData_list_none, isData_int, isData_str, isData_agg, isDataL_nil, isDataL_cons, Option.map_some, Option.getD_some, List.map_cons, List.map_nil, List.length_cons, List.length_nil, List.cons_append, List.nil_append, List.getElem?_cons_zero, List.getElem?_cons_succ, List.take_succ_cons, List.drop_zero, List.take_nil, ↓reduceIte, Bool.and_true, Bool.not_false, Bool.false_eq_true, not_false_eq_true, and_self, Nat.le_refl, Nat.zero_add, Nat.reduceEqDiff, Nat.reduceAdd, ne_eq, onlyVal, data_Tys, data_Preds, outOf_val, h1, h2, h3, e1, e1', doCall_p L hp, hp, ne_eq, not_true_eq_false, not_false_eq_true, bne]
end
end Go.Abs
