/-
  What kindsError answers. Conditions: none.
-/
import Derived.Test.YtlielgleabghlaaDoorSigK

set_option linter.unusedVariables false
set_option linter.unusedSimpArgs false
set_option maxRecDepth 100000
set_option maxHeartbeats 4000000
namespace Go.Abs

def consTypes (cs : List ConSig) : List Ty := cs.flatMap (·.args)
def dataTypes (ds : List DataSig) : List Ty := ds.flatMap fun d => consTypes d.cons
def predTypes (ps : List Pred) : List Ty := ps.map (·.type)
def valTypes (vs : List ValSig) : List Ty := vs.flatMap fun v => predTypes v.scheme.preds ++ [v.scheme.type]
def typesOf (s : SigSpec) : List Ty := dataTypes s.datas ++ valTypes s.vals
def kindsError (l : List DataSig) (s : SigSpec) : Int := firstErr ((typesOf s).map (kindError l))

theorem flat_take {α β : Type} (f : α → List β) (xs : List α) (i : Nat) (hi : i < xs.length) : (xs.take (i + 1)).flatMap f = (xs.take i).flatMap f ++ f xs[i] := by
  rw [List.take_succ_eq_append_getElem hi, List.flatMap_append]
  simp
theorem flat_take_le {α β : Type} (f : α → List β) (xs : List α) (i : Nat) (hi : i < xs.length) : ((xs.take i).flatMap f).length + (f xs[i]).length ≤ (xs.flatMap f).length := by
  have h : xs.flatMap f = (xs.take (i + 1)).flatMap f ++ (xs.drop (i + 1)).flatMap f := by rw [← List.flatMap_append, List.take_append_drop]
  rw [h, flat_take f xs i hi]
  simp only [List.length_append]
  omega

def sBox (s : SigSpec) : AObj := .box [.list (s.datas.map encData) none, .list (s.vals.map encVal) none]

def kA_C (s : SigSpec) (d : DataSig) (v0 v18 v19 v20 : AVal) (cs : List ConSig) (outs : List Ty) (i : Nat) : St :=
  ⟨kt [0, 3, 5, 18, 19, 20, 25, 26, 27] [v0, .ptr (some (0, 0)), .list (outs.map encTy) (some (some 1)), v18, v19, v20, .list (cs.map encCon) none, .int .i64 cs.length, .int .i64 i],
   [.box [.list (s.datas.map encData) none, .list (s.vals.map encVal) none], .tail outs.length 4, .box [.str d.name, .int .i64 d.params, .list (d.cons.map encCon) none]]⟩
theorem kinds_l0A {L : Lib} (s : SigSpec) (d : DataSig) (v0 v18 v19 v20 : AVal) (w0 : isData v0 = true) (w18 : isData v18 = true) (w19 : isData v19 = true) (w20 : isData v20 = true) (cs : List ConSig) (hl : cs.length < 2 ^ 30) (base : List Ty) (hb : base.length + (consTypes cs).length < 2 ^ 30) :
    loopF L.pure (call L) 3 [0, 3, 5, 18, 19, 20, 25, 26, 27] [0, 3, 5, 18, 19, 20] 2 fn39_l0 (kA_C s d v0 v18 v19 v20 cs base 0) =
    some (.normal, ⟨kt [0, 3, 5, 18, 19, 20] [v0, .ptr (some (0, 0)), .list ((base ++ consTypes cs).map encTy) (some (some 1)), v18, v19, v20], (kA_C s d v0 v18 v19 v20 cs (base ++ consTypes cs) 0).h⟩) := by
  have h := loopF_count (pure := L.pure) (call := call L) (b := 3) (keep := [0, 3, 5, 18, 19, 20, 25, 26, 27]) (fk := [0, 3, 5, 18, 19, 20]) (id := 2) (body := fn39_l0) (fun i => kA_C s d v0 v18 v19 v20 cs (base ++ (cs.take i).flatMap (·.args)) i) cs.length
    (T := ⟨kt [0, 3, 5, 18, 19, 20] [v0, .ptr (some (0, 0)), .list ((base ++ consTypes cs).map encTy) (some (some 1)), v18, v19, v20], (kA_C s d v0 v18 v19 v20 cs (base ++ consTypes cs) 0).h⟩) ?_ ?_
  · simpa using h
  · intro i hi
    obtain ⟨h1, h2, h3⟩ := round_facts encCon cs hl i hi
    have hle := flat_take_le (fun c : ConSig => c.args) cs i hi
    rw [flat_take _ cs i hi, ← List.append_assoc]
    have hm : (base ++ (cs.take i).flatMap (·.args)).length + cs[i].args.length ≤ 1073741824 := by
      rw [List.length_append]
      unfold consTypes at hb
      omega
    generalize base ++ (cs.take i).flatMap (·.args) = outs at *
    generalize cs[i] = a at *
    unfold fn39_l0 kA_C
    by_cases hn : a.args = []
    · simp -implicitDefEqProofs only [code_skip, code_ops, code_seq, code_cond, code_block, ops_cons, ops_nil, aOp, opd, upd_at, upd_none, kt_cons, stepVal, stepHeap, aBin, aInt, aIndexList, isShift, aLoad1, aStore, readAt, aField, leaf, acells_agg, cellsSet, gc_mk, gcIds_mk, newIds_nil, newIds_cons, gcMap_at, posOf, ren, renC, renO_box, renO_tail, idsV, idsC, idsO_box, idsO_tail, aAppend, isData_list_none, isData_list_tail, isData_int, isData_str, isData_ptr, Option.map_some, List.map_cons, List.map_nil, List.flatMap_cons, List.flatMap_nil, List.length_cons, List.length_nil, List.cons_append, List.nil_append, List.append_nil, List.getElem?_cons_zero, List.getElem?_cons_succ, List.set_cons_zero, List.set_cons_succ, List.take_succ_cons, List.take_zero, List.drop_succ_cons, List.drop_zero, List.take_nil, List.drop_nil, List.all_cons, List.all_nil, List.not_mem_nil, ↓reduceIte, Bool.and_true, Bool.false_eq_true, and_true, not_false_eq_true, decide_true, and_self, Nat.le_refl, reduceCtorEq, Nat.zero_add, Nat.reduceEqDiff, Nat.reduceAdd, Nat.reduceLT, Nat.reduceLeDiff, Int.toNat_natCast, Int.natCast_nonneg, roundF_eq, kt_nil, encCon_eq, data_Tys, data_Cons, data_Datas, data_Vals, h1, h2, h3, w0, w18, w19, w20, hn]
    · have hn' : ¬ (a.args.map encTy = []) := by simpa using hn
      simp -implicitDefEqProofs only [code_skip, code_ops, code_seq, code_cond, code_block, ops_cons, ops_nil, aOp, opd, upd_at, upd_none, kt_cons, stepVal, stepHeap, aBin, aInt, aIndexList, isShift, aLoad1, aStore, readAt, aField, leaf, acells_agg, cellsSet, gc_mk, gcIds_mk, newIds_nil, newIds_cons, gcMap_at, posOf, ren, renC, renO_box, renO_tail, idsV, idsC, idsO_box, idsO_tail, aAppend, isData_list_none, isData_list_tail, isData_int, isData_str, isData_ptr, isDataL_append, Option.map_some, List.map_cons, List.map_nil, List.flatMap_cons, List.flatMap_nil, List.length_cons, List.length_nil, List.length_append, List.length_map, List.cons_append, List.nil_append, List.append_nil, List.getElem?_cons_zero, List.getElem?_cons_succ, List.set_cons_zero, List.set_cons_succ, List.take_succ_cons, List.take_zero, List.drop_succ_cons, List.drop_zero, List.take_nil, List.drop_nil, List.all_cons, List.all_nil, List.not_mem_nil, ↓reduceIte, Bool.and_true, Bool.false_eq_true, and_true, not_false_eq_true, decide_true, and_self, Nat.le_refl, reduceCtorEq, Nat.zero_add, Nat.reduceEqDiff, Nat.reduceAdd, Nat.reduceLT, Nat.reduceLeDiff, Int.toNat_natCast, Int.natCast_nonneg, roundF_eq, maxLen_eq, List.map_append, kt_nil, encCon_eq, data_Tys, data_Cons, data_Datas, data_Vals, all_Tys, h1, h2, h3, hm, w0, w18, w19, w20, hn']
  · have h0 : ¬ ((cs.length : Int) < cs.length) := by omega
    rw [List.take_length]
    unfold fn39_l0 kA_C consTypes
    simp -implicitDefEqProofs only [code_ops, code_seq, code_cond, code_exit, ops_cons, ops_nil, aOp, opd, upd_at, kt_cons, stepVal, aBin, aInt, isShift, gcE, gc_mk, gcIds_mk, newIds_nil, newIds_cons, gcMap_at, posOf, ren, renC, renO_box, renO_tail, idsV, idsC, idsO_box, idsO_tail, isData_list_none, isData_list_tail, isData_int, isData_str, isData_ptr, isDataL_append, List.map_cons, List.map_nil, List.flatMap_cons, List.flatMap_nil, List.length_cons, List.length_nil, List.length_append, List.cons_append, List.nil_append, List.append_nil, List.take_succ_cons, List.take_nil, List.not_mem_nil, ↓reduceIte, Bool.and_true, Bool.false_eq_true, and_true, not_false_eq_true, decide_false, Nat.le_refl, reduceCtorEq, Nat.zero_add, Nat.reduceEqDiff, Nat.reduceAdd, Nat.reduceLT, Nat.reduceLeDiff, roundF_eq, List.map_append, kt_nil, data_Tys, data_Cons, data_Datas, data_Vals, h0, w0, w18, w19, w20]

def kB_C (s : SigSpec) (d : DataSig) (v0 v18 v19 v20 : AVal) (cs : List ConSig) (outs : List Ty) (i : Nat) : St :=
  ⟨kt [0, 3, 5, 18, 19, 20, 25, 26, 27] [v0, .ptr (some (0, 0)), .list (outs.map encTy) (ownAt 2 outs.length), v18, v19, v20, .list (cs.map encCon) none, .int .i64 cs.length, .int .i64 i],
   .box [.list (s.datas.map encData) none, .list (s.vals.map encVal) none] :: .box [.str d.name, .int .i64 d.params, .list (d.cons.map encCon) none] :: tailAt 4 outs.length⟩
theorem kinds_l0B {L : Lib} (s : SigSpec) (d : DataSig) (v0 v18 v19 v20 : AVal) (w0 : isData v0 = true) (w18 : isData v18 = true) (w19 : isData v19 = true) (w20 : isData v20 = true) (cs : List ConSig) (hl : cs.length < 2 ^ 30) (hb : (consTypes cs).length < 2 ^ 30) :
    loopF L.pure (call L) 2 [0, 3, 5, 18, 19, 20, 25, 26, 27] [0, 3, 5, 18, 19, 20] 2 fn39_l0 (kB_C s d v0 v18 v19 v20 cs [] 0) =
    some (.normal, ⟨kt [0, 3, 5, 18, 19, 20] [v0, .ptr (some (0, 0)), .list ((consTypes cs).map encTy) (ownAt 2 (consTypes cs).length), v18, v19, v20], (kB_C s d v0 v18 v19 v20 cs (consTypes cs) 0).h⟩) := by
  have h := loopF_count (pure := L.pure) (call := call L) (b := 2) (keep := [0, 3, 5, 18, 19, 20, 25, 26, 27]) (fk := [0, 3, 5, 18, 19, 20]) (id := 2) (body := fn39_l0) (fun i => kB_C s d v0 v18 v19 v20 cs ((cs.take i).flatMap (·.args)) i) cs.length
    (T := ⟨kt [0, 3, 5, 18, 19, 20] [v0, .ptr (some (0, 0)), .list ((consTypes cs).map encTy) (ownAt 2 (consTypes cs).length), v18, v19, v20], (kB_C s d v0 v18 v19 v20 cs (consTypes cs) 0).h⟩) ?_ ?_
  · simpa using h
  · intro i hi
    obtain ⟨h1, h2, h3⟩ := round_facts encCon cs hl i hi
    have hle := flat_take_le (fun c : ConSig => c.args) cs i hi
    rw [flat_take _ cs i hi]
    have hm : ((cs.take i).flatMap (·.args)).length + cs[i].args.length ≤ 1073741824 := by
      unfold consTypes at hb
      omega
    generalize (cs.take i).flatMap (·.args) = outs at *
    generalize cs[i] = a at *
    unfold fn39_l0 kB_C
    by_cases hn : a.args = []
    · rcases own_cases 2 4 outs.length with ⟨g1, g2⟩ | ⟨g1, g2⟩ <;> simp -implicitDefEqProofs only [code_skip, code_ops, code_seq, code_cond, code_block, ops_cons, ops_nil, aOp, opd, upd_at, upd_none, kt_cons, stepVal, stepHeap, aBin, aInt, aIndexList, isShift, aLoad1, aStore, readAt, aField, leaf, acells_agg, cellsSet, gc_mk, gcIds_mk, newIds_nil, newIds_cons, gcMap_at, posOf, ren, renC, renO_box, renO_tail, idsV, idsC, idsO_box, aAppend, isData_list_none, isData_list_full, isData_list_tail, isData_int, isData_str, isData_ptr, Option.map_some, Option.getD_some, List.map_cons, List.map_nil, List.flatMap_cons, List.flatMap_nil, List.length_cons, List.length_nil, List.cons_append, List.nil_append, List.append_nil, List.getElem?_cons_zero, List.getElem?_cons_succ, List.set_cons_zero, List.set_cons_succ, List.take_succ_cons, List.take_zero, List.drop_succ_cons, List.drop_zero, List.take_nil, List.drop_nil, List.all_cons, List.all_nil, List.not_mem_nil, ↓reduceIte, Bool.and_true, Bool.false_eq_true, and_true, not_false_eq_true, decide_true, and_self, Nat.le_refl, reduceCtorEq, Nat.zero_add, Nat.reduceEqDiff, Nat.reduceAdd, Nat.reduceLT, Nat.reduceLeDiff, Int.toNat_natCast, Int.natCast_nonneg, roundF_eq, kt_nil, encCon_eq, data_Tys, data_Cons, data_Datas, data_Vals, h1, h2, h3, w0, w18, w19, w20, hn, g1, g2]
    · have hn' : ¬ (a.args.map encTy = []) := by simpa using hn
      have hpos : 0 < a.args.length := List.length_pos_iff.2 hn
      have g3 : ownAt 2 (outs.length + a.args.length) = some (some 2) := ownAt_pos (by omega)
      have g4 : tailAt 4 (outs.length + a.args.length) = [.tail (outs.length + a.args.length) 4] := tailAt_pos (by omega)
      rcases own_cases 2 4 outs.length with ⟨g1, g2⟩ | ⟨g1, g2⟩ <;> simp -implicitDefEqProofs only [code_skip, code_ops, code_seq, code_cond, code_block, ops_cons, ops_nil, aOp, opd, upd_at, upd_none, kt_cons, stepVal, stepHeap, aBin, aInt, aIndexList, isShift, aLoad1, aStore, readAt, aField, leaf, acells_agg, cellsSet, gc_mk, gcIds_mk, newIds_nil, newIds_cons, gcMap_at, posOf, ren, renC, renO_box, renO_tail, idsV, idsC, idsO_box, aAppend, isData_list_none, isData_list_tail, isData_int, isData_str, isData_ptr, isDataL_append, Option.map_some, Option.getD_some, List.map_cons, List.map_nil, List.flatMap_cons, List.flatMap_nil, List.length_cons, List.length_nil, List.length_append, List.length_map, List.cons_append, List.nil_append, List.append_nil, List.getElem?_cons_zero, List.getElem?_cons_succ, List.set_cons_zero, List.set_cons_succ, List.take_succ_cons, List.take_zero, List.drop_succ_cons, List.drop_zero, List.take_nil, List.drop_nil, List.all_cons, List.all_nil, List.not_mem_nil, ↓reduceIte, Bool.and_true, Bool.false_eq_true, and_true, not_false_eq_true, decide_true, and_self, Nat.le_refl, reduceCtorEq, Nat.zero_add, Nat.reduceEqDiff, Nat.reduceAdd, Nat.reduceLT, Nat.reduceLeDiff, Int.toNat_natCast, Int.natCast_nonneg, roundF_eq, maxLen_eq, List.map_append, kt_nil, encCon_eq, data_Tys, data_Cons, data_Datas, data_Vals, all_Tys, h1, h2, h3, hm, w0, w18, w19, w20, hn', g1, g2, g3, g4]
  · have h0 : ¬ ((cs.length : Int) < cs.length) := by omega
    rw [List.take_length]
    unfold fn39_l0 kB_C consTypes
    rcases own_cases 2 4 (cs.flatMap (·.args)).length with ⟨g1, g2⟩ | ⟨g1, g2⟩ <;> simp -implicitDefEqProofs only [code_ops, code_seq, code_cond, code_exit, ops_cons, ops_nil, aOp, opd, upd_at, kt_cons, stepVal, aBin, aInt, isShift, gcE, gc_mk, gcIds_mk, newIds_nil, newIds_cons, gcMap_at, posOf, ren, renC, renO_box, renO_tail, idsV, idsC, idsO_box, isData_list_none, isData_list_full, isData_list_tail, isData_int, isData_str, isData_ptr, Option.getD_some, List.map_cons, List.map_nil, List.flatMap_cons, List.flatMap_nil, List.length_cons, List.length_nil, List.cons_append, List.nil_append, List.append_nil, List.getElem?_cons_zero, List.getElem?_cons_succ, List.take_succ_cons, List.take_zero, List.take_nil, List.not_mem_nil, ↓reduceIte, Bool.false_eq_true, and_true, not_false_eq_true, decide_false, and_self, Nat.le_refl, reduceCtorEq, Nat.zero_add, Nat.reduceEqDiff, Nat.reduceAdd, Nat.reduceLT, Nat.reduceLeDiff, roundF_eq, kt_nil, data_Tys, data_Cons, data_Datas, data_Vals, h0, w0, w18, w19, w20, g1, g2]

def k1_C (s : SigSpec) (v0 : AVal) (ds : List DataSig) (outs : List Ty) (i : Nat) : St :=
  ⟨kt [0, 3, 5, 18, 19, 20] [v0, .ptr (some (0, 0)), .list (outs.map encTy) (ownAt 1 outs.length), .list (ds.map encData) none, .int .i64 ds.length, .int .i64 i],
   .box [.list (s.datas.map encData) none, .list (s.vals.map encVal) none] :: tailAt 4 outs.length⟩
theorem kinds_l1 {L : Lib} (s : SigSpec) (v0 : AVal) (w0 : isData v0 = true) (ds : List DataSig) (hl : ds.length < 2 ^ 30) (hlc : ∀ d ∈ ds, d.cons.length < 2 ^ 30) (hb : (dataTypes ds).length < 2 ^ 30) :
    loopF L.pure (call L) 1 [0, 3, 5, 18, 19, 20] [0, 3, 5] 0 fn39_l1 (k1_C s v0 ds [] 0) =
    some (.normal, ⟨kt [0, 3, 5] [v0, .ptr (some (0, 0)), .list ((dataTypes ds).map encTy) (ownAt 1 (dataTypes ds).length)], (k1_C s v0 ds (dataTypes ds) 0).h⟩) := by
  have h := loopF_count (pure := L.pure) (call := call L) (b := 1) (keep := [0, 3, 5, 18, 19, 20]) (fk := [0, 3, 5]) (id := 0) (body := fn39_l1) (fun i => k1_C s v0 ds ((ds.take i).flatMap fun d => consTypes d.cons) i) ds.length
    (T := ⟨kt [0, 3, 5] [v0, .ptr (some (0, 0)), .list ((dataTypes ds).map encTy) (ownAt 1 (dataTypes ds).length)], (k1_C s v0 ds (dataTypes ds) 0).h⟩) ?_ ?_
  · simpa using h
  · intro i hi
    obtain ⟨h1, h2, h3⟩ := round_facts encData ds hl i hi
    have hle := flat_take_le (fun d : DataSig => consTypes d.cons) ds i hi
    have hlc := hlc ds[i] (List.getElem_mem hi)
    rw [flat_take _ ds i hi]
    have hm : ((ds.take i).flatMap fun d => consTypes d.cons).length + (consTypes ds[i].cons).length < 2 ^ 30 := by
      unfold dataTypes at hb
      omega
    generalize ((ds.take i).flatMap fun d => consTypes d.cons) = outs at *
    generalize ds[i] = a at *
    cases outs with
    | nil =>
      have hin := kinds_l0B (L := L) s a v0 (.list (ds.map encData) none) (.int .i64 ds.length) (.int .i64 i) w0 (by simp -implicitDefEqProofs only [isData_list_none, data_Datas]) rfl rfl a.cons hlc (by simpa using hm)
      unfold kB_C at hin
      simp only [Int.natCast_zero, List.length_nil, ownAt_zero, tailAt_zero, List.map_nil] at hin
      unfold fn39_l1 k1_C
      rcases Nat.eq_zero_or_pos (consTypes a.cons).length with hz | hz
      · have g1 : ownAt 2 (consTypes a.cons).length = some none := by rw [hz]; rfl
        have g2 : tailAt 4 (consTypes a.cons).length = [] := by rw [hz]; rfl
        have g3 : ownAt 1 (consTypes a.cons).length = some none := by rw [hz]; rfl
        simp -implicitDefEqProofs only [code_skip, code_ops, code_seq, code_cond, code_block, ops_cons, ops_nil, aOp, opd, upd_at, upd_none, kt_cons, stepVal, stepHeap, aBin, aLen, aInt, aIndexList, isShift, aLoad1, aStore, readAt, aField, leaf, acells_agg, cellsSet, code_loopF, gc_mk, gcIds_mk, newIds_nil, newIds_cons, gcMap_at, posOf, ren, renC, renO_box, idsV, idsC, idsO_box, isData_list_none, isData_list_full, isData_int, isData_str, isData_ptr, isDataL_nil, Option.map_some, List.map_cons, List.map_nil, List.flatMap_cons, List.flatMap_nil, List.length_cons, List.length_nil, List.length_map, List.cons_append, List.nil_append, List.append_nil, List.getElem?_cons_zero, List.getElem?_cons_succ, List.set_cons_zero, List.set_cons_succ, List.take_succ_cons, List.take_zero, List.drop_succ_cons, List.drop_zero, List.take_nil, List.drop_nil, List.all_cons, List.all_nil, List.not_mem_nil, ↓reduceIte, Bool.and_true, Bool.false_eq_true, and_true, not_false_eq_true, decide_true, and_self, Nat.le_refl, reduceCtorEq, Nat.zero_add, Nat.reduceEqDiff, Nat.reduceAdd, Nat.reduceLT, Nat.reduceLeDiff, Int.toNat_natCast, Int.natCast_nonneg, roundF_eq, kt_nil, encData_eq, data_Tys, data_Cons, data_Datas, data_Vals, ownAt_zero, tailAt_zero, h1, h2, h3, w0, hin, g1, g2, g3]
      · have g1 : ownAt 2 (consTypes a.cons).length = some (some 2) := ownAt_pos hz
        have g2 : tailAt 4 (consTypes a.cons).length = [.tail (consTypes a.cons).length 4] := tailAt_pos hz
        have g3 : ownAt 1 (consTypes a.cons).length = some (some 1) := ownAt_pos hz
        simp -implicitDefEqProofs only [code_skip, code_ops, code_seq, code_cond, code_block, ops_cons, ops_nil, aOp, opd, upd_at, upd_none, kt_cons, stepVal, stepHeap, aBin, aLen, aInt, aIndexList, isShift, aLoad1, aStore, readAt, aField, leaf, acells_agg, cellsSet, code_loopF, gc_mk, gcIds_mk, newIds_nil, newIds_cons, gcMap_at, posOf, ren, renC, renO_box, renO_tail, idsV, idsC, idsO_box, isData_list_none, isData_list_full, isData_list_tail, isData_int, isData_str, isData_ptr, isDataL_nil, Option.map_some, Option.getD_some, List.map_cons, List.map_nil, List.flatMap_cons, List.flatMap_nil, List.length_cons, List.length_nil, List.length_map, List.cons_append, List.nil_append, List.append_nil, List.getElem?_cons_zero, List.getElem?_cons_succ, List.set_cons_zero, List.set_cons_succ, List.take_succ_cons, List.take_zero, List.drop_succ_cons, List.drop_zero, List.take_nil, List.drop_nil, List.all_cons, List.all_nil, List.not_mem_nil, ↓reduceIte, Bool.and_true, Bool.false_eq_true, and_true, not_false_eq_true, decide_true, and_self, Nat.le_refl, reduceCtorEq, Nat.zero_add, Nat.reduceEqDiff, Nat.reduceAdd, Nat.reduceLT, Nat.reduceLeDiff, Int.toNat_natCast, Int.natCast_nonneg, roundF_eq, kt_nil, encData_eq, data_Tys, data_Cons, data_Datas, data_Vals, ownAt_zero, tailAt_zero, h1, h2, h3, w0, hin, g1, g2, g3]
    | cons x xs =>
      have hin := kinds_l0A (L := L) s a v0 (.list (ds.map encData) none) (.int .i64 ds.length) (.int .i64 i) w0 (by simp -implicitDefEqProofs only [isData_list_none, data_Datas]) rfl rfl a.cons hlc (x :: xs) hm
      have hpos : 0 < (x :: xs).length := by simp
      generalize x :: xs = outs at *
      unfold kA_C at hin
      simp only [Int.natCast_zero, List.length_append, List.map_append] at hin
      have g1 : ownAt 1 outs.length = some (some 1) := ownAt_pos hpos
      have g2 : tailAt 4 outs.length = [.tail outs.length 4] := tailAt_pos hpos
      have g3 : ownAt 1 (outs.length + (consTypes a.cons).length) = some (some 1) := ownAt_pos (by omega)
      have g4 : tailAt 4 (outs.length + (consTypes a.cons).length) = [.tail (outs.length + (consTypes a.cons).length) 4] := tailAt_pos (by omega)
      unfold fn39_l1 k1_C
      simp -implicitDefEqProofs only [code_skip, code_ops, code_seq, code_cond, code_block, ops_cons, ops_nil, aOp, opd, upd_at, upd_none, kt_cons, stepVal, stepHeap, aBin, aLen, aInt, aIndexList, isShift, aLoad1, aStore, readAt, aField, leaf, acells_agg, cellsSet, code_loopF, gc_mk, gcIds_mk, newIds_nil, newIds_cons, gcMap_at, posOf, ren, renC, renO_box, renO_tail, idsV, idsC, idsO_box, idsO_tail, isData_list_none, isData_list_tail, isData_int, isData_str, isData_ptr, isDataL_append, Option.map_some, Option.getD_some, List.map_cons, List.map_nil, List.flatMap_cons, List.flatMap_nil, List.length_cons, List.length_nil, List.length_append, List.length_map, List.cons_append, List.nil_append, List.append_nil, List.getElem?_cons_zero, List.getElem?_cons_succ, List.set_cons_zero, List.set_cons_succ, List.take_succ_cons, List.take_zero, List.drop_succ_cons, List.drop_zero, List.take_nil, List.drop_nil, List.all_cons, List.all_nil, List.not_mem_nil, ↓reduceIte, Bool.and_true, Bool.false_eq_true, and_true, not_false_eq_true, decide_true, and_self, Nat.le_refl, reduceCtorEq, Nat.zero_add, Nat.reduceEqDiff, Nat.reduceAdd, Nat.reduceLT, Nat.reduceLeDiff, Int.toNat_natCast, Int.natCast_nonneg, roundF_eq, List.map_append, kt_nil, encData_eq, data_Tys, data_Cons, data_Datas, data_Vals, h1, h2, h3, w0, hin, g1, g2, g3, g4]
  · have h0 : ¬ ((ds.length : Int) < ds.length) := by omega
    rw [List.take_length]
    unfold fn39_l1 k1_C dataTypes
    rcases own_cases 1 4 (ds.flatMap fun d => consTypes d.cons).length with ⟨g1, g2⟩ | ⟨g1, g2⟩ <;> simp -implicitDefEqProofs only [code_ops, code_seq, code_cond, code_exit, ops_cons, ops_nil, aOp, opd, upd_at, kt_cons, stepVal, aBin, aInt, isShift, gcE, gc_mk, gcIds_mk, newIds_nil, newIds_cons, gcMap_at, posOf, ren, renC, renO_box, renO_tail, idsV, idsC, idsO_box, isData_list_none, isData_list_full, isData_list_tail, isData_ptr, Option.getD_some, List.map_cons, List.map_nil, List.flatMap_cons, List.flatMap_nil, List.length_cons, List.length_nil, List.cons_append, List.nil_append, List.append_nil, List.getElem?_cons_zero, List.getElem?_cons_succ, List.take_succ_cons, List.take_zero, List.take_nil, List.not_mem_nil, ↓reduceIte, Bool.false_eq_true, and_true, not_false_eq_true, decide_false, and_self, Nat.le_refl, reduceCtorEq, Nat.zero_add, Nat.reduceEqDiff, Nat.reduceAdd, Nat.reduceLT, Nat.reduceLeDiff, roundF_eq, kt_nil, data_Tys, data_Datas, data_Vals, h0, w0, g1, g2]

end Go.Abs
