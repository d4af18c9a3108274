/-
  The law CoreFreeUp on the machine. Conditions: none.
-/
import Derived.Test.YtciacognbcgfiaaDoorCoreX
import Derived.Test.YtciacognbcgfiaaDoorC
set_option linter.unusedVariables false
set_option linter.unusedSimpArgs false
set_option maxRecDepth 100000
set_option maxHeartbeats 4000000
namespace Go.Abs
/-- A call that reads numbers. -/
theorem look_data {h : Heap} {v : AVal} (hd : isData v = true) : lookV h v = wipe v := by
  unfold lookV viewV
  rw [view1, if_pos hd]
theorem view_ints (h : Heap) (n : Nat) (l : List Int) : (l.map encI).map (view1 h n) = l.map encI := by
  rw [List.map_map]
  refine List.map_congr_left fun x _ => ?_
  show view1 h n (encI x) = encI x
  cases n <;> rw [view1, if_pos (show isData (encI x) = true from rfl)]
theorem leaf_ints (l : List Int) : (l.map encI).all leaf = true := by
  rw [List.all_eq_true]
  intro x hx
  obtain ⟨y, _, rfl⟩ := List.mem_map.1 hx
  rfl
theorem look_vec {h : Heap} {id : Nat} {l : List Int} (hh : h[id]? = some (.vec (l.map encI) 1)) : lookV h (.vec id l.length) = .list (l.map encI) none := by
  unfold lookV viewV
  rw [view1, if_neg (by simp [isData])]
  unfold viewStep
  dsimp only
  rw [hh]
  dsimp only
  rw [if_pos (leaf_ints l), if_pos ⟨rfl, by simp⟩, view_ints]
  rfl
def scopeOf (op : Int) (binds : List Int) (as : List CAlt) (k : Nat) : List Int :=
  if op = 2 ∨ op = 5 ∨ (op = 4 ∧ k = 1) then binds else if (op = 7 ∨ op = 13) ∧ 0 < k then (match as[k - 1]? with | some a => a.binds | none => []) else []
def fu1 (sc acc : List Int) (n : Int) : List Int := if (!inI' sc n && !inI' acc n) = true then acc ++ [n] else acc
theorem opK_load1 (pure : Nat → Bool) (call : CallT) (a : Opd) (tm : Tmps) (h : Heap) : aOpK pure call (.load1 a) tm h = aOp pure call (.load1 a) tm h := rfl
section
variable {L : Lib} (hC : CLib2 L)
include hC
theorem scope_ok (h137 : L.fns 137 = some fn137) (op n : Int) (binds kids : List Int) (as : List CAlt) (k : Nat) (hk : k < 2 ^ 30) (hr : (op = 7 ∨ op = 13) → k ≤ as.length) (h : Heap) :
    pcall L 137 [.agg [.int .i64 op, .int .i64 n, .list (binds.map encI) none, .list (kids.map encI) none, .list (as.map encAlt) none], .int .i64 k] h = some (.val (.list ((scopeOf op binds as k).map encI) none), h) := by
  have hL := hC.plain
  refine pcall_fn hL h137 (by rw [isData_list_none]; exact data_Ints _) ?_ h
  unfold scopeOf
  by_cases h2 : op = 2
  · subst h2
    unfold fn137
    simp -implicitDefEqProofs only [code_ops, code_seq, code_cond, code_ret, ops_cons, ops_cons_g, ops_nil, aOp, opd, upd_at, initTm_at, stepVal, aBin, aInt, isShift, aWanted, aLoad1, aField, acells_agg, endFn, aResults, aResult, tupled, wipeR_list, beqTF, beq_self_eq_true, Option.getD_some, List.length_nil, List.nil_append, List.getElem?_cons_zero, List.getElem?_cons_succ, ↓reduceIte, Bool.false_eq_true, false_and, or_false, Nat.add_zero, Nat.zero_add, Nat.reduceEqDiff, Int.reduceEq, outOf_val]
  by_cases h5 : op = 5
  · subst h5
    unfold fn137
    simp -implicitDefEqProofs only [code_ops, code_seq, code_cond, code_ret, ops_cons, ops_cons_g, ops_nil, aOp, opd, upd_at, initTm_at, stepVal, aBin, aInt, isShift, aWanted, aLoad1, aField, acells_agg, endFn, aResults, aResult, tupled, wipeR_list, beqTF, beq_self_eq_true, Option.getD_some, List.length_nil, List.nil_append, List.getElem?_cons_zero, List.getElem?_cons_succ, ↓reduceIte, Bool.false_eq_true, false_and, or_true, or_false, Nat.add_zero, Nat.zero_add, Nat.reduceEqDiff, Int.reduceEq, Int.reduceBEq, outOf_val]
  have e2 : (op == 2) = false := by simpa using h2
  have e5 : (op == 5) = false := by simpa using h5
  by_cases h4 : op = 4
  · subst h4
    by_cases hk1 : k = 1
    · subst hk1
      unfold fn137
      simp -implicitDefEqProofs only [code_ops, code_seq, code_cond, code_ret, ops_cons, ops_cons_g, ops_nil, aOp, opd, upd_at, initTm_at, stepVal, aBin, aInt, isShift, aWanted, aLoad1, aField, acells_agg, endFn, aResults, aResult, tupled, wipeR_list, beq_self_eq_true, Option.getD_some, List.length_nil, List.nil_append, List.getElem?_cons_zero, List.getElem?_cons_succ, ↓reduceIte, Bool.false_eq_true, or_true, and_self, Nat.add_zero, Nat.zero_add, Nat.reduceEqDiff, Int.reduceEq, Int.reduceBEq, Int.cast_ofNat_Int, outOf_val, Int.natCast_one]
    · have ek : ((k : Int) == 1) = false := by simp; omega
      rw [if_neg (by omega), if_neg (by omega)]
      unfold fn137
      simp -implicitDefEqProofs only [code_skip, code_ops, code_seq, code_cond, code_ret, ops_cons, ops_cons_g, ops_nil, aOp, opd, upd_at, initTm_at, stepVal, aBin, aInt, isShift, aWanted, aLoad1, aField, acells_agg, endFn, aResults, aResult, tupled, wipeR_list, beqFT, beq_self_eq_true, Option.getD_some, List.map_nil, List.length_nil, List.nil_append, List.getElem?_cons_zero, List.getElem?_cons_succ, ↓reduceIte, Bool.false_eq_true, Nat.add_zero, Nat.reduceEqDiff, Int.reduceBEq, outOf_val, ek]
  have e4 : (op == 4) = false := by simpa using h4
  rw [if_neg (by omega)]
  by_cases h7 : op = 7 ∨ op = 13
  · by_cases h0 : 0 < k
    · have hlt : k - 1 < as.length := by have := hr h7; omega
      have h0' : (0 : Int) < k := by omega
      have w : IntKind.i64.wrap ((k : Int) - 1) = ((k - 1 : Nat) : Int) := by rw [wrap64 (by omega) (by omega)]; omega
      have g : (as.map encAlt)[k - 1]? = some (encAlt as[k - 1]) := by simp [hlt]
      rw [if_pos ⟨h7, h0⟩, List.getElem?_eq_getElem hlt]
      dsimp only
      generalize as[k - 1] = a at *
      rcases h7 with h7 | h7 <;> subst h7 <;> unfold fn137 <;> simp -implicitDefEqProofs only [code_skip, code_ops, code_seq, code_cond, code_ret, ops_cons, ops_cons_g, ops_nil, aOp, opd, upd_at, initTm_at, stepVal, aBin, aInt, aIndexList, isShift, aWanted, aLoad1, aField, acells_agg, endFn, aResults, aResult, tupled, wipeR_list, beqTF, beqFT, beq_self_eq_true, Option.getD_some, List.length_cons, List.length_nil, List.nil_append, List.getElem?_cons_zero, List.getElem?_cons_succ, ↓reduceIte, Bool.false_eq_true, decide_true, Nat.add_zero, Nat.zero_add, Nat.reduceEqDiff, Nat.reduceAdd, Int.toNat_natCast, Int.natCast_nonneg, Int.reduceBEq, gt_iff_lt, outOf_val, encAlt_eq, h0', w, g]
    · have h0' : ¬ (0 : Int) < k := by omega
      rw [if_neg (by omega)]
      rcases h7 with h7 | h7 <;> subst h7 <;> unfold fn137 <;> simp -implicitDefEqProofs only [code_skip, code_ops, code_seq, code_cond, code_ret, ops_cons, ops_cons_g, ops_nil, aOp, opd, upd_at, initTm_at, stepVal, aBin, aInt, isShift, aWanted, aLoad1, aField, acells_agg, endFn, aResults, aResult, tupled, wipeR_list, beqTF, beqFT, beq_self_eq_true, Option.getD_some, List.map_nil, List.length_nil, List.nil_append, List.getElem?_cons_zero, List.getElem?_cons_succ, ↓reduceIte, Bool.false_eq_true, decide_false, Nat.add_zero, Nat.reduceEqDiff, Int.reduceBEq, gt_iff_lt, outOf_val, h0']
  · have e7 : (op == 7) = false := by simp; omega
    have e13 : (op == 13) = false := by simp; omega
    rw [if_neg (by omega)]
    unfold fn137
    simp -implicitDefEqProofs only [code_skip, code_ops, code_seq, code_cond, code_ret, ops_cons, ops_cons_g, ops_nil, aOp, opd, upd_at, initTm_at, stepVal, aBin, aInt, isShift, aWanted, aLoad1, aField, acells_agg, endFn, aResults, aResult, tupled, wipeR_list, beqFT, beq_self_eq_true, Option.getD_some, List.map_nil, List.length_nil, List.nil_append, List.getElem?_cons_zero, ↓reduceIte, Bool.false_eq_true, Nat.add_zero, Nat.reduceEqDiff, outOf_val, e2, e5, e4, e7, e13]
theorem vin_ok (h136 : L.fns 136 = some fn136) {h : Heap} {v : AVal} {l : List Int} (hv : lookV h v = .list (l.map encI) none) (hl : l.length < 2 ^ 30) (n : Int) :
    vCall (call L) 136 [v, .int .i64 n] h = some (.val (.bool (inI' l n)), h) := by
  refine vCall_pcall (args' := [.list (l.map encI) none, .int .i64 n]) ?_ ?_ rfl (in_ok hC.plain h136 l hl n h)
  · simp only [List.map_cons, List.map_nil, hv]
    rw [look_data rfl]
    rfl
  · simp only [isDataL, isData, data_Ints, Bool.and_self]
end
/-- The list of what is wanted, where it lies. -/
def wv (id : Nat) (acc : List Int) : AVal := if acc = [] then .list [] (some none) else .vec id acc.length
def wA (acc : List Int) : Heap := if acc = [] then [] else [.vec (acc.map encI) 1]
def wvB (w0 acc : List Int) : AVal := if acc = w0 then .vec 1 acc.length else .vec 2 acc.length
def wB (w0 acc : List Int) : Heap := if acc = w0 then [.vec (acc.map encI) 1] else [.gone, .vec (acc.map encI) 1]
/-- Behind the inner loop. -/
def wR (w0 acc : List Int) : AVal × Heap := if w0 = [] then (wv 1 acc, wA acc) else (wvB w0 acc, wB w0 acc)
/-- Where the list lies, before and behind an append. -/
theorem fu_shape (w0 s : List Int) (z : Int) (h1 : w0.length ≤ s.length) (h2 : s ≠ w0 → w0.length < s.length) :
    (s = [] ∧ wR w0 s = (.list [] (some none), []) ∧ (if w0 = [] then 1 else 2) = 1 ∧ wR w0 (s ++ [z]) = (.vec 1 1, [.vec ([z].map encI) 1])) ∨
    (wR w0 s = (.vec 1 s.length, [.vec (s.map encI) 1]) ∧ s ≠ [] ∧ (if w0 = [] then 1 else 2) = 1 ∧ wR w0 (s ++ [z]) = (.vec 1 (s.length + 1), [.vec ((s ++ [z]).map encI) 1])) ∨
    (wR w0 s = (.vec 1 s.length, [.vec (s.map encI) 1]) ∧ s ≠ [] ∧ (if w0 = [] then 1 else 2) = 2 ∧ wR w0 (s ++ [z]) = (.vec 2 (s.length + 1), [.gone, .vec ((s ++ [z]).map encI) 1])) ∨
    (wR w0 s = (.vec 2 s.length, [.gone, .vec (s.map encI) 1]) ∧ s ≠ [] ∧ (if w0 = [] then 1 else 2) = 2 ∧ wR w0 (s ++ [z]) = (.vec 2 (s.length + 1), [.gone, .vec ((s ++ [z]).map encI) 1])) := by
  have hsz : s ++ [z] ≠ [] := by simp
  unfold wR wv wA wvB wB
  by_cases h0 : w0 = []
  · subst h0
    by_cases hs : s = []
    · subst hs
      exact .inl ⟨rfl, rfl, by rw [if_pos rfl], rfl⟩
    · refine .inr (.inl ⟨?_, hs, rfl, ?_⟩)
      · simp only [hs, if_true, if_false]
      · simp only [hsz, if_true, if_false, List.length_append, List.length_cons, List.length_nil]
  · by_cases hs : s = w0
    · refine .inr (.inr (.inl ⟨?_, by rw [hs]; exact h0, by rw [if_neg h0], ?_⟩))
      · simp only [h0, hs, if_true, if_false]
      · have hne : s ++ [z] ≠ w0 := fun hx => by have := congrArg List.length hx; simp [hs] at this
        simp only [h0, hne, if_true, if_false, List.length_append, List.length_cons, List.length_nil]
    · have hne : s ++ [z] ≠ w0 := fun hx => by have h3 := congrArg List.length hx; have h4 := h2 hs; rw [List.length_append, List.length_singleton] at h3; omega
      refine .inr (.inr (.inr ⟨?_, fun hx => by have := h2 hs; rw [hx, List.length_nil] at this; omega, by rw [if_neg h0], ?_⟩))
      · simp only [h0, hs, if_true, if_false]
      · simp only [h0, hne, if_true, if_false, List.length_append, List.length_cons, List.length_nil]
def ebox (x : CExpr) : AObj := .box [.int .i64 x.op, .int .i64 x.n, .list (x.binds.map encI) none, .list (x.kids.map encI) none, .list (x.alts.map encAlt) none]
def f123s (e : List CExpr) (l : List Int) (x : CExpr) (k : Nat) (m : List Int) (w : AVal × Heap) (i : Nat) : St :=
  ⟨kt [0, 5, 6, 7, 8, 9, 44, 45, 46, 59, 60, 61] [.list (e.map encExpr) none, .list (l.map encI) none, .int .i64 0, .ptr (some (0, 0)), w.1, .int .i64 k, .list (x.kids.map encI) none, .int .i64 x.kids.length, .int .i64 k, .list (m.map encI) none, .int .i64 m.length, .int .i64 i], ebox x :: w.2⟩
def f123t (e : List CExpr) (l : List Int) (x : CExpr) (k : Nat) (w : AVal × Heap) : St :=
  ⟨kt [0, 5, 6, 7, 8, 44, 45, 46] [.list (e.map encExpr) none, .list (l.map encI) none, .int .i64 0, .ptr (some (0, 0)), w.1, .list (x.kids.map encI) none, .int .i64 x.kids.length, .int .i64 k], ebox x :: w.2⟩
/-- What is wanted, kid by kid. -/
def fuK (e : List CExpr) (x : CExpr) (k : Nat) (acc : List Int) (kid : Int) : List Int := (freeOf (treeAt e kid.toNat)).foldl (fu1 (scopeOf x.op x.binds x.alts k)) acc
def fuAll (e : List CExpr) (x : CExpr) : List Int → Nat → List Int → List Int
  | [], _, acc => acc
  | kid :: ks, k, acc => fuAll e x ks (k + 1) (fuK e x k acc kid)
theorem fuAll_fold (e : List CExpr) (x : CExpr) : ∀ (ks : List Int) (k : Nat) (acc : List Int), foldE (fun k acc kid => (.ok (fuK e x k acc kid) : Except Unit (List Int))) ks k acc = .ok (fuAll e x ks k acc)
  | [], _, _ => rfl
  | kid :: ks, k, acc => fuAll_fold e x ks (k + 1) _
def f123o (e : List CExpr) (l : List Int) (x : CExpr) (w : List Int) (k : Nat) : St :=
  ⟨kt [0, 5, 6, 7, 8, 44, 45, 46] [.list (e.map encExpr) none, .list (l.map encI) none, .int .i64 0, .ptr (some (0, 0)), wv 1 w, .list (x.kids.map encI) none, .int .i64 x.kids.length, .int .i64 k], ebox x :: wA w⟩
def f123e (l : List Int) (x : CExpr) (w : List Int) : St := ⟨kt [4, 5, 6, 8] [.junk, .list (l.map encI) none, .int .i64 0, wv 1 w], ebox x :: wA w⟩
section
variable {L : Lib} (hC : CLib2 L)
include hC
/-- A round, by where the list lies and lies then. -/
theorem fu_round (h136 : L.fns 136 = some fn136) (h137 : L.fns 137 = some fn137) (e : List CExpr) (l : List Int) (x : CExpr) (k : Nat) (hk : k < 2 ^ 30) (hsc : (x.op = 7 ∨ x.op = 13) → k ≤ x.alts.length) (hscl : (scopeOf x.op x.binds x.alts k).length < 2 ^ 30) (m : List Int) (hm : m.length < 2 ^ 30) (i : Nat) (hi : i < m.length) (acc : List Int) (hacc : acc.length < 2 ^ 29) (b : Nat)
    (w w' : AVal × Heap)
    (hw : (acc = [] ∧ w = (.list [] (some none), []) ∧ b = 1 ∧ w' = (.vec 1 1, [.vec ([m[i]].map encI) 1])) ∨ (w = (.vec 1 acc.length, [.vec (acc.map encI) 1]) ∧ acc ≠ [] ∧ b = 1 ∧ w' = (.vec 1 (acc.length + 1), [.vec ((acc ++ [m[i]]).map encI) 1])) ∨
      (w = (.vec 1 acc.length, [.vec (acc.map encI) 1]) ∧ acc ≠ [] ∧ b = 2 ∧ w' = (.vec 2 (acc.length + 1), [.gone, .vec ((acc ++ [m[i]]).map encI) 1])) ∨ (w = (.vec 2 acc.length, [.gone, .vec (acc.map encI) 1]) ∧ acc ≠ [] ∧ b = 2 ∧ w' = (.vec 2 (acc.length + 1), [.gone, .vec ((acc ++ [m[i]]).map encI) 1]))) :
    roundF L.pure (call L) b [0, 5, 6, 7, 8, 9, 44, 45, 46, 59, 60, 61] [0, 5, 6, 7, 8, 44, 45, 46] fn123_l0 (f123s e l x k m w i) =
      some (.normal, f123s e l x k m (if (!inI' (scopeOf x.op x.binds x.alts k) m[i] && !inI' acc m[i]) = true then w' else w) (i + 1)) := by
  have hL := hC.plain
  have hp := hL.pure
  have hdE := data_Exprs e
  have hdX := data_Alts x.alts
  obtain ⟨h1, h2, h3⟩ := round_c encI m hm i hi
  have hsp := scope_ok hC h137 x.op x.n x.binds x.kids x.alts k hk hsc
  have hv1 := fun (h : Heap) n => vin_ok hC h136 (h := h) (v := .list ((scopeOf x.op x.binds x.alts k).map encI) none) (look_data (by rw [isData_list_none]; exact data_Ints _)) hscl n
  generalize scopeOf x.op x.binds x.alts k = sc at *
  generalize m[i] = z at *
  have hle : acc.length + 1 ≤ 1073741824 := by omega
  have hall := all_Ints acc
  unfold f123s ebox
  rcases hw with ⟨rfl, rfl, rfl, rfl⟩ | ⟨rfl, hne, rfl, rfl⟩ | ⟨rfl, hne, rfl, rfl⟩ | ⟨rfl, hne, rfl, rfl⟩
  · have hv2 := fun (h : Heap) n => vin_ok hC h136 (h := h) (v := .list [] (some none)) (l := []) (look_data rfl) (by simp) n
    cases hs : inI' sc z with
    | true => unfold fn123_l0; simp -implicitDefEqProofs only [code_skip, code_ops, code_seq, code_cond, code_block, ops_cons, ops_cons_g, ops_nil, aOp, opd, upd_at, kt_cons, stepVal, aBin, aInt, aUn, aIndexList, isShift, aWanted, aLoad1, readAt, acells_int, gc_mk, gcIds_mk, newIds_nil, newIds_cons, gcMap_at, posOf, ren, renC, renO_box, idsV, idsC, idsO_box, wipe_agg, wipe_int, wipeC_list, wipeC_int, isData_list_none, isData_list_full, isData_int, isData_agg, isData_ptr, isDataL_nil, isDataL_cons, beqFT, Option.map_some, List.map_cons, List.map_nil, List.flatMap_cons, List.flatMap_nil, List.length_cons, List.length_nil, List.nil_append, List.append_nil, List.getElem?_cons_zero, List.take_succ_cons, List.drop_zero, List.take_nil, List.not_mem_nil, ↓reduceIte, Bool.and_true, Bool.false_and, Bool.not_true, Bool.false_eq_true, and_true, not_false_eq_true, decide_true, and_self, Nat.le_refl, reduceCtorEq, Nat.zero_add, Nat.reduceEqDiff, Nat.reduceAdd, Nat.reduceLT, Nat.reduceLeDiff, Int.toNat_natCast, Int.natCast_nonneg, roundF_eq, kt_nil, onlyVal, encI_eq, data_Ints, h1, h2, h3, hsp, hv1, hv2, hs, hdE, hdX, doCall_p L hp, hp]
    | false =>
      have hs2 : inI' [] z = false := rfl
      unfold fn123_l0
      simp -implicitDefEqProofs only [code_skip, code_ops, code_kops, opsK_nil, opsK_cons, opK_move, code_seq, code_cond, code_block, ops_cons, ops_cons_g, ops_nil, aOp, opd, upd_at, kt_cons, stepVal, aBin, aInt, aUn, aIndexList, isShift, aWanted, aLoad1, readAt, leaf, acells_int, gc_mk, gcIds_mk, newIds_nil, newIds_cons, gcMap_at, posOf, ren, renC, renO_box, idsV, idsC, idsO_box, wipe_agg, wipe_int, wipeC_list, wipeC_int, isData_list_none, isData_int, isData_agg, isData_ptr, isDataL_nil, isDataL_cons, beq_self_eq_true, Option.map_some, Option.getD_some, List.map_cons, List.map_nil, List.flatMap_cons, List.flatMap_nil, List.length_cons, List.length_nil, List.cons_append, List.nil_append, List.append_nil, List.getElem?_cons_zero, List.getElem?_cons_succ, List.take_succ_cons, List.take_zero, List.drop_zero, List.take_nil, List.all_cons, List.all_nil, List.not_mem_nil, ↓reduceIte, Bool.and_true, Bool.not_false, Bool.false_eq_true, and_true, not_false_eq_true, decide_true, and_self, Nat.le_refl, reduceCtorEq, Nat.zero_add, Nat.reduceEqDiff, Nat.reduceAdd, Nat.reduceLT, Nat.reduceLeDiff, Int.toNat_natCast, Int.natCast_nonneg, List.cons_ne_nil, roundF_eq, maxLen_eq, kt_nil, onlyVal, encI_eq, data_Ints, isData_vec, renO_vec, h1, h2, h3, hsp, hv1, hv2, hs, hs2, hdE, hdX, opK_append, opK_buildSlice, isNew_e, aAppendV, doCall_p L hp, hp]
  all_goals
    cases hs : inI' sc z with
    | true =>
      unfold fn123_l0
      simp -implicitDefEqProofs only [code_skip, code_ops, code_seq, code_cond, code_block, ops_cons, ops_cons_g, ops_nil, aOp, opd, upd_at, kt_cons, stepVal, aBin, aInt, aUn, aIndexList, isShift, aWanted, aLoad1, readAt, acells_int, gc_mk, gcIds_mk, newIds_nil, newIds_cons, gcMap_at, posOf, ren, renC, renO_gone, renO_box, idsV, idsC, idsO_gone, idsO_box, wipe_agg, wipe_int, wipeC_list, wipeC_int, isData_list_none, isData_int, isData_agg, isData_ptr, isDataL_nil, isDataL_cons, beqFT, Option.map_some, Option.getD_some, List.map_cons, List.map_nil, List.flatMap_cons, List.flatMap_nil, List.length_cons, List.length_nil, List.cons_append, List.nil_append, List.append_nil, List.getElem?_cons_zero, List.getElem?_cons_succ, List.take_succ_cons, List.take_zero, List.drop_zero, List.take_nil, List.not_mem_nil, ↓reduceIte, Bool.and_true, Bool.false_and, Bool.not_true, Bool.false_eq_true, and_true, not_false_eq_true, decide_true, and_self, Nat.le_refl, reduceCtorEq, Nat.zero_add, Nat.reduceEqDiff, Nat.reduceAdd, Nat.reduceLT, Nat.reduceLeDiff, Int.toNat_natCast, Int.natCast_nonneg, roundF_eq, kt_nil, onlyVal, encI_eq, data_Ints, isData_vec, idsO_vec, renO_vec, ids_Ints, ren_Ints, h1, h2, h3, hsp, hv1, hs, hdE, hdX, doCall_p L hp, hp]
    | false =>
      have hv2 := fun n => vin_ok hC h136 (h := [.box [.int .i64 x.op, .int .i64 x.n, .list (x.binds.map encI) none, .list (x.kids.map encI) none, .list (x.alts.map encAlt) none], .vec (acc.map encI) 1]) (v := .vec 1 acc.length) (l := acc) (look_vec rfl) (by omega) n
      have hv3 := fun n => vin_ok hC h136 (h := [.box [.int .i64 x.op, .int .i64 x.n, .list (x.binds.map encI) none, .list (x.kids.map encI) none, .list (x.alts.map encAlt) none], .gone, .vec (acc.map encI) 1]) (v := .vec 2 acc.length) (l := acc) (look_vec rfl) (by omega) n
      cases hs2 : inI' acc z with
      | true => unfold fn123_l0; simp -implicitDefEqProofs only [code_skip, code_ops, code_seq, code_cond, code_block, ops_cons, ops_cons_g, ops_nil, aOp, opd, upd_at, kt_cons, stepVal, aBin, aInt, aUn, aIndexList, isShift, aWanted, aLoad1, readAt, acells_int, gc_mk, gcIds_mk, newIds_nil, newIds_cons, gcMap_at, posOf, ren, renC, renO_gone, renO_box, idsV, idsC, idsO_gone, idsO_box, wipe_agg, wipe_int, wipeC_list, wipeC_int, isData_list_none, isData_int, isData_agg, isData_ptr, isDataL_nil, isDataL_cons, beq_self_eq_true, Option.map_some, Option.getD_some, List.map_cons, List.map_nil, List.flatMap_cons, List.flatMap_nil, List.length_cons, List.length_nil, List.cons_append, List.nil_append, List.append_nil, List.getElem?_cons_zero, List.getElem?_cons_succ, List.take_succ_cons, List.take_zero, List.drop_zero, List.take_nil, List.not_mem_nil, ↓reduceIte, Bool.and_true, Bool.and_false, Bool.not_true, Bool.not_false, Bool.false_eq_true, and_true, not_false_eq_true, decide_true, and_self, Nat.le_refl, reduceCtorEq, Nat.zero_add, Nat.reduceEqDiff, Nat.reduceAdd, Nat.reduceLT, Nat.reduceLeDiff, Int.toNat_natCast, Int.natCast_nonneg, roundF_eq, kt_nil, onlyVal, encI_eq, data_Ints, isData_vec, idsO_vec, renO_vec, ids_Ints, ren_Ints, h1, h2, h3, hsp, hv1, hv2, hv3, hs, hs2, hdE, hdX, doCall_p L hp, hp]
      | false => unfold fn123_l0; simp -implicitDefEqProofs only [code_skip, code_ops, code_kops, opsK_nil, opsK_cons, opK_move, code_seq, code_cond, code_block, ops_cons, ops_cons_g, ops_nil, aOp, opd, upd_at, kt_cons, stepVal, aBin, aInt, aUn, aIndexList, isShift, aWanted, aLoad1, readAt, leaf, acells_int, gc_mk, gcIds_mk, newIds_nil, newIds_cons, gcMap_at, posOf, ren, renC, renO_gone, renO_box, idsV, idsC, idsO_gone, idsO_box, aAppend, wipe_agg, wipe_int, wipeC_list, wipeC_int, isData_list_none, isData_int, isData_agg, isData_ptr, isDataL_nil, isDataL_cons, beq_self_eq_true, Option.map_some, Option.getD_some, List.map_cons, List.map_nil, List.flatMap_cons, List.flatMap_nil, List.length_cons, List.length_nil, List.length_map, List.cons_append, List.nil_append, List.append_nil, List.getElem?_cons_zero, List.getElem?_cons_succ, List.set_cons_zero, List.set_cons_succ, List.take_succ_cons, List.take_zero, List.drop_zero, List.take_nil, List.all_cons, List.all_nil, List.not_mem_nil, ↓reduceIte, Bool.and_true, Bool.not_false, Bool.false_eq_true, and_true, not_false_eq_true, decide_true, and_self, Nat.le_refl, reduceCtorEq, Nat.zero_add, Nat.reduceEqDiff, Nat.reduceAdd, Nat.reduceLT, Nat.reduceLeDiff, Int.toNat_natCast, Int.natCast_nonneg, List.cons_ne_nil, roundF_eq, maxLen_eq, List.map_append, kt_nil, onlyVal, encI_eq, data_Ints, isData_vec, renO_vec, ren_Ints, Nat.mul_one, h1, h2, h3, hsp, hv1, hv2, hv3, hs, hs2, hdE, hdX, hall, hle, opK_append, opK_buildSlice, isNew_ne, doCall_p L hp, hp]
theorem fu_l0 (h136 : L.fns 136 = some fn136) (h137 : L.fns 137 = some fn137) (e : List CExpr) (l : List Int) (x : CExpr) (k : Nat) (hk : k < 2 ^ 30) (hsc : (x.op = 7 ∨ x.op = 13) → k ≤ x.alts.length) (hscl : (scopeOf x.op x.binds x.alts k).length < 2 ^ 30) (m : List Int) (w0 : List Int) (hb : w0.length + m.length < 2 ^ 29) :
    (m.foldl (fu1 (scopeOf x.op x.binds x.alts k)) w0).length ≤ w0.length + m.length ∧
    loopF L.pure (call L) (if w0 = [] then 1 else 2) [0, 5, 6, 7, 8, 9, 44, 45, 46, 59, 60, 61] [0, 5, 6, 7, 8, 44, 45, 46] 2 fn123_l0 (f123s e l x k m (wR w0 w0) 0) = some (.normal, f123t e l x k (wR w0 (m.foldl (fu1 (scopeOf x.op x.binds x.alts k)) w0))) := by
  have := loopF_fold (pure := L.pure) (call := call L) (b := if w0 = [] then 1 else 2) (keep := [0, 5, 6, 7, 8, 9, 44, 45, 46, 59, 60, 61]) (fk := [0, 5, 6, 7, 8, 44, 45, 46]) (id := 2) (body := fn123_l0) m (fu1 (scopeOf x.op x.binds x.alts k))
    (fun s i => f123s e l x k m (wR w0 s) i) (fun s => f123t e l x k (wR w0 s)) (fun s i => s.length ≤ w0.length + i ∧ w0.length ≤ s.length ∧ (s ≠ w0 → w0.length < s.length)) w0 ⟨by omega, by omega, fun h => absurd rfl h⟩ ?_ ?_
  · exact ⟨this.1.1, this.2⟩
  · intro i hi s ⟨b1, b2, b3⟩
    have hr := fu_round hC h136 h137 e l x k hk hsc hscl m (by omega) i hi s (by omega) (if w0 = [] then 1 else 2) (wR w0 s) (wR w0 (s ++ [m[i]])) (fu_shape w0 s m[i] b2 b3)
    rw [hr]
    unfold fu1
    split
    · refine ⟨rfl, by simp; omega, by simp; omega, fun _ => by simp; omega⟩
    · exact ⟨rfl, by omega, b2, b3⟩
  · intro s ⟨b1, b2, b3⟩
    have hdE := data_Exprs e
    have hdX := data_Alts x.alts
    have h0 := append_c m.length
    unfold f123s f123t ebox
    rcases fu_shape w0 s 0 b2 b3 with ⟨hz, hw, hbb, _⟩ | ⟨hw, hne, hbb, _⟩ | ⟨hw, hne, hbb, _⟩ | ⟨hw, hne, hbb, _⟩ <;> simp only [hw, hbb] <;> unfold fn123_l0 <;> simp -implicitDefEqProofs only [code_ops, code_seq, code_cond, code_exit, ops_cons, ops_nil, aOp, opd, upd_at, kt_cons, stepVal, aBin, aInt, isShift, gcE, gc_mk, gcIds_mk, newIds_nil, newIds_cons, gcMap_at, posOf, ren, renC, renO_gone, renO_box, idsV, idsC, idsO_gone, idsO_box, isData_list_none, isData_list_full, isData_int, isData_ptr, isDataL_nil, Option.getD_some, List.map_cons, List.map_nil, List.flatMap_cons, List.flatMap_nil, List.length_cons, List.length_nil, List.cons_append, List.nil_append, List.append_nil, List.getElem?_cons_zero, List.getElem?_cons_succ, List.take_succ_cons, List.take_zero, List.take_nil, List.not_mem_nil, ↓reduceIte, Bool.false_eq_true, and_true, not_false_eq_true, decide_false, and_self, Nat.le_refl, reduceCtorEq, Nat.zero_add, Nat.reduceEqDiff, Nat.reduceAdd, Nat.reduceLT, Nat.reduceLeDiff, roundF_eq, kt_nil, data_Ints, isData_vec, idsO_vec, renO_vec, ids_Ints, ren_Ints, h0, hdE, hdX]
theorem fu_l1 (h136 : L.fns 136 = some fn136) (h137 : L.fns 137 = some fn137) (h166 : L.fns 166 = some fn166) (h168 : L.fns 168 = some fn168) (h135 : L.fns 135 = some fn135)
    (e : List CExpr) (hl : e.length < 2 ^ 30) (hf : ∀ x ∈ e, NodeFit x) (hz : checkErr e = 0) (l : List Int) (x : CExpr) (hx : NodeFit x) (hkl : x.kids.length ≤ 4096) (hkm : ∀ k ∈ x.kids, 0 ≤ k ∧ k.toNat < e.length)
    (hsc : ∀ k, k < x.kids.length → (x.op = 7 ∨ x.op = 13) → k ≤ x.alts.length) (w0 : List Int) (hw0 : w0.length ≤ 1) :
    loopF L.pure (call L) (if w0 = [] then 1 else 2) [0, 5, 6, 7, 8, 44, 45, 46] [4, 5, 6, 8] 0 fn123_l1 (f123o e l x w0 0) = some (.normal, f123e l x (fuAll e x x.kids 0 w0)) ∨ (w0 ≠ [] ∧ x.kids ≠ []) := by
  have hL := hC.plain
  have hp := hL.pure
  have hdE := data_Exprs e
  have hdX := data_Alts x.alts
  by_cases hnot : w0 ≠ [] ∧ x.kids ≠ []
  · exact .inr hnot
  refine .inl ?_
  have key := loopF_foldE (pure := L.pure) (call := call L) (b := if w0 = [] then 1 else 2) (keep := [0, 5, 6, 7, 8, 44, 45, 46]) (fk := [4, 5, 6, 8]) (id := 0) (body := fn123_l1) (ε := Unit) x.kids (fun k acc kid => .ok (fuK e x k acc kid))
    (fun s i => f123o e l x s i) (fun s => f123e l x s) (fun _ _ => False) (fun s i => s.length ≤ 1 + i * 4096 ∧ (w0 ≠ [] → s ≠ [])) w0 ⟨by omega, id⟩ ?_ ?_ ?_
  · exact (key.1 _ (fuAll_fold e x x.kids 0 w0)).2
  · intro i hi s s' ⟨hs, hse⟩ hq
    injection hq with hq
    subst hq
    have hw0' : w0 = [] := by
      refine Classical.byContradiction fun h => hnot ⟨h, fun hk => ?_⟩
      rw [hk] at hi
      simp at hi
    subst hw0'
    obtain ⟨h1, h2, h3⟩ := round_c encI x.kids hx.kids i hi
    obtain ⟨k0, k1⟩ := hkm x.kids[i] (List.getElem_mem hi)
    have hfree := freeAt_ok hC h166 h168 h135 e hl hf x.kids[i]
    have hat : atErr e x.kids[i] = 0 := by unfold atErr; rw [if_pos hz, if_neg (by omega)]
    unfold freeAtI at hfree
    simp only [hat, if_true] at hfree
    have hok := tok_sub (tok_of hz) (sub_at (check_tree hz).1 x.kids[i].toNat k1)
    have hfl : (freeOf (treeAt e x.kids[i].toNat)).length ≤ 4096 := by
      unfold freeOf
      rw [sortInts_len]
      unfold keysOf
      rw [List.length_map]
      have := free_len (treeAt e x.kids[i].toNat) ([], [])
      have := hok.size
      simp at *
      omega
    have hbig : s.length + 4096 < 2 ^ 29 := by have : i * 4096 ≤ 4096 * 4096 := Nat.mul_le_mul (by omega) (Nat.le_refl _); omega
    have hscl : (scopeOf x.op x.binds x.alts i).length < 2 ^ 30 := by
      unfold scopeOf
      split
      · exact hx.binds
      · split
        · split
          · rename_i a ha
            exact hx.each a (List.mem_of_getElem? ha)
          · simp
        · simp
    obtain ⟨hlen, hl0⟩ := fu_l0 hC h136 h137 e l x i (by omega) (hsc i hi) hscl (freeOf (treeAt e x.kids[i].toNat)) s (by omega)
    have hlenK : (fuK e x i s x.kids[i]).length ≤ s.length + (freeOf (treeAt e x.kids[i].toNat)).length := hlen
    refine ⟨?_, by rw [Nat.add_mul]; omega, fun h => absurd rfl h⟩
    have hK : (freeOf (treeAt e x.kids[i].toNat)).foldl (fu1 (scopeOf x.op x.binds x.alts i)) s = fuK e x i s x.kids[i] := rfl
    rw [hK] at hl0
    have hmono : s ≠ [] → fuK e x i s x.kids[i] ≠ [] := by
      have hm : ∀ (m : List Int) (s : List Int), s ≠ [] → m.foldl (fu1 (scopeOf x.op x.binds x.alts i)) s ≠ [] := by
        intro m
        induction m with
        | nil => intro s h; exact h
        | cons z m ih =>
          intro s h
          rw [List.foldl_cons]
          refine ih _ ?_
          unfold fu1
          split
          · simp
          · exact h
      exact hm _ s
    have hdI := data_Ints (freeOf (treeAt e x.kids[i].toNat))
    generalize fuK e x i s x.kids[i] = s' at *
    generalize freeOf (treeAt e x.kids[i].toNat) = m at *
    generalize x.kids[i] = kid at *
    unfold f123s f123t ebox at hl0
    unfold f123o ebox
    unfold wR at hl0
    simp only [Int.natCast_zero] at hl0
    by_cases hs0 : s = []
    · subst hs0
      simp only [if_true] at hl0
      have e1 : wv 1 [] = .list [] (some none) := rfl
      have e2 : wA [] = [] := rfl
      rw [e1, e2] at hl0 ⊢
      by_cases hs1 : s' = []
      · subst hs1
        rw [e1, e2] at hl0 ⊢
        unfold fn123_l1
        simp -implicitDefEqProofs only [code_skip, code_ops, code_seq, code_cond, code_block, ops_cons, ops_nil, aOp, opd, upd_at, kt_cons, stepVal, aBin, aLen, aInt, aIndexList, isShift, aLoad1, acells_int, code_loopF, gc_mk, gcIds_mk, newIds_nil, newIds_cons, gcMap_at, posOf, ren, renC, renO_box, idsV, idsC, idsO_box, wipe_list, wipe_int, isData_list_none, isData_list_full, isData_int, isData_ptr, isDataL_nil, isDataL_cons, beq_self_eq_true, List.map_cons, List.map_nil, List.flatMap_cons, List.flatMap_nil, List.length_cons, List.length_nil, List.length_map, List.nil_append, List.append_nil, List.getElem?_cons_zero, List.getElem?_cons_succ, List.take_succ_cons, List.take_nil, List.not_mem_nil, ↓reduceIte, Bool.and_true, Bool.not_true, Bool.false_eq_true, and_true, not_false_eq_true, decide_true, and_self, Nat.le_refl, reduceCtorEq, Nat.zero_add, Nat.reduceEqDiff, Nat.reduceLT, Nat.reduceLeDiff, Int.toNat_natCast, Int.natCast_nonneg, roundF_eq, kt_nil, onlyVal, encI_eq, data_Ints, h1, h2, h3, hfree, hl0, hdE, hdX, hdI, doCall_p L hp, hp, bne]
      · have e3 : wv 1 s' = .vec 1 s'.length := by unfold wv; rw [if_neg hs1]
        have e4 : wA s' = [.vec (s'.map encI) 1] := by unfold wA; rw [if_neg hs1]
        rw [e3, e4] at hl0 ⊢
        unfold fn123_l1
        simp -implicitDefEqProofs only [code_skip, code_ops, code_seq, code_cond, code_block, ops_cons, ops_nil, aOp, opd, upd_at, kt_cons, stepVal, aBin, aLen, aInt, aIndexList, isShift, aLoad1, acells_int, code_loopF, gc_mk, gcIds_mk, newIds_nil, newIds_cons, gcMap_at, posOf, ren, renC, renO_box, idsV, idsC, idsO_box, wipe_list, wipe_int, isData_list_none, isData_list_full, isData_int, isData_ptr, isDataL_nil, isDataL_cons, beq_self_eq_true, Option.getD_some, List.map_cons, List.map_nil, List.flatMap_cons, List.flatMap_nil, List.length_cons, List.length_nil, List.length_map, List.cons_append, List.nil_append, List.append_nil, List.getElem?_cons_zero, List.getElem?_cons_succ, List.take_succ_cons, List.take_zero, List.take_nil, List.not_mem_nil, ↓reduceIte, Bool.and_true, Bool.not_true, Bool.false_eq_true, and_true, not_false_eq_true, decide_true, and_self, Nat.le_refl, reduceCtorEq, Nat.zero_add, Nat.reduceEqDiff, Nat.reduceAdd, Nat.reduceLT, Nat.reduceLeDiff, Int.toNat_natCast, Int.natCast_nonneg, roundF_eq, kt_nil, onlyVal, encI_eq, data_Ints, isData_vec, renO_vec, ren_Ints, h1, h2, h3, hfree, hl0, hdE, hdX, hdI, doCall_p L hp, hp, bne]
    · have hs1 := hmono hs0
      have e1 : wv 1 s = .vec 1 s.length := by unfold wv; rw [if_neg hs0]
      have e2 : wA s = [.vec (s.map encI) 1] := by unfold wA; rw [if_neg hs0]
      have e3 : wv 1 s' = .vec 1 s'.length := by unfold wv; rw [if_neg hs1]
      have e4 : wA s' = [.vec (s'.map encI) 1] := by unfold wA; rw [if_neg hs1]
      rw [e1, e2, e3, e4]
      simp only [hs0, if_false] at hl0
      unfold wvB wB at hl0
      by_cases hss : s' = s
      · subst hss
        simp only [if_true] at hl0
        unfold fn123_l1
        simp -implicitDefEqProofs only [code_skip, code_ops, code_seq, code_cond, code_block, ops_cons, ops_nil, aOp, opd, upd_at, kt_cons, stepVal, aBin, aLen, aInt, aIndexList, isShift, aLoad1, acells_int, code_loopF, gc_mk, gcIds_mk, newIds_nil, newIds_cons, gcMap_at, posOf, ren, renC, renO_box, idsV, idsC, idsO_box, wipe_list, wipe_int, isData_list_none, isData_int, isData_ptr, isDataL_nil, isDataL_cons, beq_self_eq_true, Option.getD_some, List.map_cons, List.map_nil, List.flatMap_cons, List.flatMap_nil, List.length_cons, List.length_nil, List.length_map, List.cons_append, List.nil_append, List.append_nil, List.getElem?_cons_zero, List.getElem?_cons_succ, List.take_succ_cons, List.take_zero, List.take_nil, List.not_mem_nil, ↓reduceIte, Bool.and_true, Bool.not_true, Bool.false_eq_true, and_true, not_false_eq_true, decide_true, and_self, Nat.le_refl, reduceCtorEq, Nat.zero_add, Nat.reduceEqDiff, Nat.reduceAdd, Nat.reduceLT, Nat.reduceLeDiff, Int.toNat_natCast, Int.natCast_nonneg, roundF_eq, kt_nil, onlyVal, encI_eq, data_Ints, isData_vec, idsO_vec, renO_vec, ids_Ints, ren_Ints, h1, h2, h3, hfree, hl0, hdE, hdX, hdI, doCall_p L hp, hp, bne]
      · simp only [hss, if_true, if_false] at hl0
        unfold fn123_l1
        simp -implicitDefEqProofs only [code_skip, code_ops, code_seq, code_cond, code_block, ops_cons, ops_nil, aOp, opd, upd_at, kt_cons, stepVal, aBin, aLen, aInt, aIndexList, isShift, aLoad1, acells_int, code_loopF, gc_mk, gcIds_mk, newIds_nil, newIds_cons, gcMap_at, posOf, ren, renC, renO_box, idsV, idsC, idsO_box, wipe_list, wipe_int, isData_list_none, isData_int, isData_ptr, isDataL_nil, isDataL_cons, beq_self_eq_true, Option.getD_some, List.map_cons, List.map_nil, List.flatMap_cons, List.flatMap_nil, List.length_cons, List.length_nil, List.length_map, List.cons_append, List.nil_append, List.append_nil, List.getElem?_cons_zero, List.getElem?_cons_succ, List.take_succ_cons, List.take_zero, List.take_nil, List.not_mem_nil, ↓reduceIte, Bool.and_true, Bool.not_true, Bool.false_eq_true, and_true, not_false_eq_true, decide_true, and_self, Nat.le_refl, reduceCtorEq, Nat.zero_add, Nat.reduceEqDiff, Nat.reduceAdd, Nat.reduceLT, Nat.reduceLeDiff, Int.toNat_natCast, Int.natCast_nonneg, roundF_eq, kt_nil, onlyVal, encI_eq, data_Ints, isData_vec, idsO_vec, renO_vec, ids_Ints, ren_Ints, h1, h2, h3, hfree, hl0, hdE, hdX, hdI, doCall_p L hp, hp, bne]
  · intro i hi s er _ hq
    cases hq
  · intro s ⟨hs, hse⟩
    have h0 := append_c x.kids.length
    unfold f123o f123e ebox
    by_cases hs0 : s = []
    · have e1 : wv 1 s = .list [] (some none) := by unfold wv; rw [if_pos hs0]
      have e2 : wA s = [] := by unfold wA; rw [if_pos hs0]
      have hw : w0 = [] := Classical.not_not.1 fun h => hse h hs0
      rw [e1, e2]
      simp only [hw, if_true, if_false]
      unfold fn123_l1
      simp -implicitDefEqProofs only [code_ops, code_seq, code_cond, code_exit, ops_cons, ops_nil, aOp, opd, upd_at, kt_cons, stepVal, aBin, aInt, isShift, gcE, gc_mk, gcIds_mk, newIds_nil, gcMap_at, posOf, ren, renC, renO_box, idsV, idsC, idsO_box, isData_list_none, isData_list_full, isData_int, isData_junk, isDataL_nil, List.map_cons, List.map_nil, List.flatMap_cons, List.flatMap_nil, List.length_cons, List.length_nil, List.append_nil, List.take_succ_cons, List.take_nil, ↓reduceIte, Bool.false_eq_true, decide_false, Nat.le_refl, reduceCtorEq, Nat.zero_add, Nat.reduceEqDiff, roundF_eq, kt_nil, data_Ints, h0, hdE, hdX]
    · have e1 : wv 1 s = .vec 1 s.length := by unfold wv; rw [if_neg hs0]
      have e2 : wA s = [.vec (s.map encI) 1] := by unfold wA; rw [if_neg hs0]
      rw [e1, e2]
      by_cases hw : w0 = [] <;> simp only [hw, if_true, if_false] <;> unfold fn123_l1 <;> simp -implicitDefEqProofs only [code_ops, code_seq, code_cond, code_exit, ops_cons, ops_nil, aOp, opd, upd_at, kt_cons, stepVal, aBin, aInt, isShift, gcE, gc_mk, gcIds_mk, newIds_nil, newIds_cons, gcMap_at, posOf, ren, renC, renO_box, idsV, idsC, idsO_box, isData_list_none, isData_int, isData_junk, Option.getD_some, List.map_cons, List.map_nil, List.flatMap_cons, List.flatMap_nil, List.length_cons, List.length_nil, List.cons_append, List.nil_append, List.append_nil, List.getElem?_cons_zero, List.getElem?_cons_succ, List.take_succ_cons, List.take_zero, List.take_nil, List.not_mem_nil, ↓reduceIte, Bool.false_eq_true, and_true, not_false_eq_true, decide_false, and_self, Nat.le_refl, reduceCtorEq, Nat.zero_add, Nat.reduceEqDiff, Nat.reduceAdd, Nat.reduceLT, Nat.reduceLeDiff, roundF_eq, kt_nil, data_Ints, isData_vec, idsO_vec, renO_vec, ids_Ints, ren_Ints, h0, hdE, hdX]
end
/-! ### What is wanted is what is free -/
theorem fu1_mem (sc : List Int) (v : Int) : ∀ (m acc : List Int), v ∈ m.foldl (fu1 sc) acc ↔ v ∈ acc ∨ (v ∈ m ∧ v ∉ sc)
  | [], acc => by simp
  | z :: m, acc => by
    rw [List.foldl_cons, fu1_mem sc v m]
    have hin : ∀ (l : List Int) (z : Int), inI' l z = true ↔ z ∈ l := by
      intro l z
      unfold inI'
      rw [List.any_eq_true]
      exact ⟨fun ⟨x, hx, he⟩ => by rw [beq_iff_eq] at he; rw [← he]; exact hx, fun h => ⟨z, h, by simp⟩⟩
    unfold fu1
    split
    · rename_i hc
      simp only [Bool.and_eq_true, Bool.not_eq_true'] at hc
      have h1 : z ∉ sc := fun hx => by rw [(hin sc z).2 hx] at hc; cases hc.1
      rw [List.mem_append, List.mem_singleton, List.mem_cons]
      constructor
      · rintro ((a | rfl) | a)
        · exact .inl a
        · exact .inr ⟨.inl rfl, h1⟩
        · exact .inr ⟨.inr a.1, a.2⟩
      · rintro (a | ⟨rfl | a, c⟩)
        · exact .inl (.inl a)
        · exact .inl (.inr rfl)
        · exact .inr ⟨a, c⟩
    · rename_i hc
      simp only [Bool.and_eq_true, Bool.not_eq_true', not_and, Bool.not_eq_false] at hc
      rw [List.mem_cons]
      constructor
      · rintro (a | a)
        · exact .inl a
        · exact .inr ⟨.inr a.1, a.2⟩
      · rintro (a | ⟨rfl | a, c⟩)
        · exact .inl a
        · refine .inl ((hin acc v).1 (hc ?_))
          cases hq : inI' sc v with
          | false => rfl
          | true => exact absurd ((hin sc v).1 hq) c
        · exact .inr ⟨a, c⟩
theorem fu1_nodup (sc : List Int) : ∀ (m acc : List Int), acc.Nodup → (m.foldl (fu1 sc) acc).Nodup
  | [], acc, h => h
  | z :: m, acc, h => by
    rw [List.foldl_cons]
    refine fu1_nodup sc m _ ?_
    unfold fu1
    split
    · rename_i hc
      simp only [Bool.and_eq_true, Bool.not_eq_true'] at hc
      refine List.nodup_append.2 ⟨h, by simp, fun a ha b hb => ?_⟩
      rw [List.mem_singleton.1 hb]
      intro he
      have : inI' acc z = true := by unfold inI'; rw [List.any_eq_true]; exact ⟨a, ha, by simpa using he⟩
      rw [this] at hc
      cases hc.2
    · exact h
theorem fuAll_mem (e : List CExpr) (x : CExpr) (v : Int) : ∀ (ks : List Int) (k : Nat) (acc : List Int), v ∈ fuAll e x ks k acc ↔ v ∈ acc ∨ ∃ j, ∃ hj : j < ks.length, FreeIn v (treeAt e ks[j].toNat) ∧ v ∉ scopeOf x.op x.binds x.alts (k + j)
  | [], k, acc => by rw [fuAll]; simp
  | kid :: ks, k, acc => by
    rw [fuAll, fuAll_mem e x v ks (k + 1)]
    unfold fuK
    rw [fu1_mem, freeOf_mem]
    constructor
    · rintro ((a | a) | ⟨j, hj, a⟩)
      · exact .inl a
      · exact .inr ⟨0, by simp, by simpa using a⟩
      · exact .inr ⟨j + 1, by simpa using hj, by simpa [Nat.add_assoc, Nat.add_comm 1 j] using a⟩
    · rintro (a | ⟨j, hj, a⟩)
      · exact .inl (.inl a)
      · cases j with
        | zero => exact .inl (.inr (by simpa using a))
        | succ j => exact .inr ⟨j, by simpa using hj, by simpa [Nat.add_assoc, Nat.add_comm 1 j] using a⟩
theorem fuAll_nodup (e : List CExpr) (x : CExpr) : ∀ (ks : List Int) (k : Nat) (acc : List Int), acc.Nodup → (fuAll e x ks k acc).Nodup
  | [], k, acc, h => by rw [fuAll]; exact h
  | kid :: ks, k, acc, h => by
    rw [fuAll]
    exact fuAll_nodup e x ks (k + 1) _ (fu1_nodup _ _ _ h)
/-- A node's parts, from its check. -/
theorem lab_shape {l : Lab} (h : labErr false l = 0) : shapeOk l.op l.n l.binds.length l.kops.length l.alts = true := by
  unfold labErr at h
  split at h
  · cases h
  · unfold errL at h
    split at h
    · cases h
    · rename_i hs
      simpa using hs
theorem shape_case {op n : Int} {bl kl : Nat} {as : List CAlt} (h : shapeOk op n bl kl as = true) : ((op = 7 ∨ op = 13) → kl = as.length + 1) ∧ (¬ (op = 7 ∨ op = 13) → as = []) := by
  unfold shapeOk at h
  split at h
  · rename_i ho
    simp only [Bool.and_eq_true] at h
    have := h.1.1
    unfold altsOk at this
    simp only [Bool.and_eq_true, beq_iff_eq] at this
    exact ⟨fun _ => by omega, fun hn => absurd ho hn⟩
  · rename_i ho
    refine ⟨fun hy => absurd hy ho, fun _ => ?_⟩
    split at h
    · cases h
    · unfold shapeEnd at h
      simp only [Bool.and_eq_true, beq_iff_eq] at h
      exact List.length_eq_zero_iff.1 (by omega)
theorem shape_var {n : Int} {bl kl : Nat} {as : List CAlt} (h : shapeOk 0 n bl kl as = true) : kl = 0 := by
  unfold shapeOk kbu shapeEnd at h
  simp only [Bool.and_eq_true, beq_iff_eq] at h
  simp at h
  omega
theorem scope_bound {op n : Int} {binds : List Int} {kl : Nat} {as : List CAlt} (h : shapeOk op n binds.length kl as = true) (k : Nat) : scopeOf op binds as k = boundOf op binds as k := by
  unfold scopeOf boundOf
  split
  · rfl
  · by_cases ho : op = 7 ∨ op = 13
    · simp only [ho, true_and]
      rfl
    · have := (shape_case h).2 ho
      subst this
      simp
theorem wanted_free {e : List CExpr} (hz : checkErr e = 0) (n : Nat) (hn : n < e.length) :
    sortInts (fuAll e e[n] e[n].kids 0 (if e[n].op = 0 then [e[n].n] else [])) = freeOf (treeAt e n) := by
  obtain ⟨hT, _, _, hlab, _⟩ := check_tree hz
  have hs := lab_shape (hlab e[n] (List.getElem_mem hn))
  unfold labX at hs
  dsimp only at hs
  refine freeOf_eq (fuAll_nodup _ _ _ _ _ (by split <;> simp)) fun v => ?_
  rw [fuAll_mem, treeAt_eq e hT.ahead n hn, FreeIn, freeInKs_iff]
  refine or_congr ?_ ?_
  · split
    · rename_i h0
      rw [List.mem_singleton]
      exact ⟨fun h => ⟨h0, h.symm⟩, fun h => h.2.symm⟩
    · rename_i h0
      exact ⟨fun h => (by cases h), fun h => absurd h.1 h0⟩
  · constructor
    · rintro ⟨j, hj, a, c⟩
      refine ⟨j, by simpa using hj, by simpa using a, ?_⟩
      rw [← scope_bound hs]
      exact c
    · rintro ⟨j, hj, a, c⟩
      refine ⟨j, by simpa using hj, by simpa using a, ?_⟩
      rw [scope_bound hs]
      exact c
section
variable {L : Lib} (hC : CLib2 L)
include hC
/-- CoreFreeUp on the machine. -/
theorem freeup_ok (h136 : L.fns 136 = some fn136) (h137 : L.fns 137 = some fn137) (h166 : L.fns 166 = some fn166) (h168 : L.fns 168 = some fn168) (h135 : L.fns 135 = some fn135) (h123 : L.fns 123 = some fn123)
    (e : List CExpr) (hl : e.length < 2 ^ 30) (hf : ∀ x ∈ e, NodeFit x) (at_ : Int) (h : Heap) : pcall L 123 [.list (e.map encExpr) none, .int .i64 at_] h = some (.val (.bool true), h) := by
  have hL := hC.plain
  have hp := hL.pure
  have hdE := data_Exprs e
  have hall := all_Exprs e
  have hfact := coreFact_ok hC
  have hck := check_ok hC.toCLib e hl hf
  refine pcall_fn hL h123 rfl ?_ h
  by_cases hz : checkErr e = 0
  case neg =>
    have hb : (checkErr e != 0) = true := by simpa using hz
    unfold fn123
    simp -implicitDefEqProofs only [code_skip, code_ops, code_seq, code_cond, code_ret, ops_cons, ops_nil, aOp, opd, upd_at, initTm_at, stepVal, aBin, aInt, aUn, isShift, endFn, aResults, aResult, tupled, wipe_list, wipeR_bool, isData_list_none, isDataL_nil, isDataL_cons, Option.getD_some, List.map_cons, List.map_nil, List.getElem?_cons_zero, ↓reduceIte, Bool.and_true, Bool.not_true, Bool.false_eq_true, and_self, reduceCtorEq, onlyVal, outOf_val, hfact, hck, hb, hdE, doCall_p L hp, hp]
  obtain ⟨hT, hn4, hdeep, hlab, _⟩ := check_tree hz
  rw [hz] at hck
  have hpos := hT.pos
  have hmx := minMax_max 0 at_
  have hne : ¬ ((e.length : Int) = 0) := by omega
  obtain ⟨m, hm⟩ : ∃ m : Nat, (max 0 at_).tmod (e.length : Int) = m := ⟨((max 0 at_).tmod (e.length : Int)).toNat, by rw [Int.toNat_of_nonneg (Int.tmod_nonneg _ (by omega))]⟩
  have hlt : m < e.length := by
    have := Int.tmod_lt_of_pos (max 0 at_) (b := (e.length : Int)) (by omega)
    omega
  have hat : atErr e m = 0 := by unfold atErr; rw [if_pos hz, if_neg (by omega)]
  have hfree := freeAt_ok hC h166 h168 h135 e hl hf m
  unfold freeAtI at hfree
  simp only [hat, if_true, Int.toNat_natCast] at hfree
  have hx := hf e[m] (List.getElem_mem hlt)
  have hs := lab_shape (hlab e[m] (List.getElem_mem hlt))
  unfold labX at hs
  dsimp only at hs
  have hkl := kids_le e hT e[m] (List.getElem_mem hlt)
  have hwant := wanted_free hz m hlt
  have hget : (e.map encExpr)[m]? = some (encExpr e[m]) := by simp [hlt]
  have hw0 : (if e[m].op = 0 then [e[m].n] else ([] : List Int)).length ≤ 1 := by split <;> simp
  have hloop := fu_l1 hC h136 h137 h166 h168 h135 e hl hf hz (freeOf (treeAt e m)) e[m] hx (by omega) (fun k hk => by have := hT.ahead m hlt k hk; omega)
    (fun k hk ho => by have := (shape_case hs).1 ho; rw [List.length_map] at this; omega) (if e[m].op = 0 then [e[m].n] else []) hw0
  have hfl : (freeOf (treeAt e m)).length < 2 ^ 30 := by
    have hok := tok_sub (tok_of hz) (sub_at hT m hlt)
    unfold freeOf
    rw [sortInts_len]
    unfold keysOf
    rw [List.length_map]
    have h1 := free_len (treeAt e m) ([], [])
    have h2 := hok.size
    simp at h1
    omega
  have hwl : (fuAll e e[m] e[m].kids 0 (if e[m].op = 0 then [e[m].n] else [])).length = (freeOf (treeAt e m)).length := by rw [← hwant, sortInts_len]
  have hloop : loopF L.pure (call L) (if (if e[m].op = 0 then [e[m].n] else ([] : List Int)) = [] then 1 else 2) [0, 5, 6, 7, 8, 44, 45, 46] [4, 5, 6, 8] 0 fn123_l1 (f123o e (freeOf (treeAt e m)) e[m] (if e[m].op = 0 then [e[m].n] else []) 0) = some (.normal, f123e (freeOf (treeAt e m)) e[m] (fuAll e e[m] e[m].kids 0 (if e[m].op = 0 then [e[m].n] else []))) := by
    rcases hloop with h1 | ⟨h1, h2⟩
    · exact h1
    · exfalso
      split at h1
      · rename_i h0
        rw [h0] at hs
        have := shape_var hs
        rw [List.length_map] at this
        exact h2 (List.length_eq_zero_iff.1 this)
      · exact h1 rfl
  have hdI := data_Ints (freeOf (treeAt e m))
  have heq := fun (h : Heap) => eqInts139 hL hC.f139 (freeOf (treeAt e m)) (freeOf (treeAt e m)) hfl h
  have heqv : ∀ (h : Heap) (v : AVal), lookV h v = .list ((freeOf (treeAt e m)).map encI) none → vCall (call L) 139 [.list ((freeOf (treeAt e m)).map encI) none, v] h = some (.val (.bool true), h) := by
    intro h v hv
    refine vCall_pcall (args' := [.list ((freeOf (treeAt e m)).map encI) none, .list ((freeOf (treeAt e m)).map encI) none]) ?_ ?_ rfl ?_
    · simp only [List.map_cons, List.map_nil, hv]
      rw [look_data (by rw [isData_list_none]; exact hdI)]
      rfl
    · simp only [isDataL, isData, data_Ints, Bool.and_self]
    · rw [heq]; simp
  have hsort0 := hC.prims.sort0
  have hdX := data_Alts e[m].alts
  have hsortn := hC.prims.sort (fuAll e e[m] e[m].kids 0 (if e[m].op = 0 then [e[m].n] else []))
  rw [hwant] at hsortn
  generalize freeOf (treeAt e m) = l at *
  generalize fuAll e e[m] e[m].kids 0 (if e[m].op = 0 then [e[m].n] else []) = W at *
  generalize e[m] = x at *
  clear hlab hwant hs hkl hT hdeep hn4 hx
  unfold f123o f123e ebox at hloop
  have hrest : ∀ (o0 : Bool), (x.op == 0) = o0 → outOf (endFn fn123.results (aCode L.pure (call L) fn123.body ⟨initTm [.list (e.map encExpr) none, .int .i64 at_], []⟩)) = some (.val (.bool true)) := by
    intro o0 ho
    have hx0 : (x.op = 0) ↔ o0 = true := by rw [← ho]; simp
    simp only [hx0, Int.natCast_zero] at hloop
    have hcase : ∀ (wv' : AVal) (wA' : Heap), wv 1 W = wv' → wA W = wA' → (W = [] ∧ wv' = .list [] (some none) ∧ wA' = []) ∨ (W ≠ [] ∧ wv' = .vec 1 W.length ∧ wA' = [.vec (W.map encI) 1]) := by
      intro a b ha hb
      by_cases hW : W = []
      · exact .inl ⟨hW, by rw [← ha, hW]; rfl, by rw [← hb, hW]; rfl⟩
      · exact .inr ⟨hW, by rw [← ha]; unfold wv; rw [if_neg hW], by rw [← hb]; unfold wA; rw [if_neg hW]⟩
    rcases hcase _ _ rfl rfl with ⟨hW, e1, e2⟩ | ⟨hW, e1, e2⟩ <;> rw [e1, e2] at hloop
    · have hl0 : l = [] := List.length_eq_zero_iff.1 (by rw [← hwl, hW]; rfl)
      subst hl0
      have hv := fun h => heqv h (.list [] (some none)) (look_data rfl)
      simp only [List.map_nil] at hv hloop
      have hwv : wv 1 [] = .list [] (some none) := rfl
      have hwv2 : wv 1 [x.n] = .vec 1 1 := rfl
      have hwA : wA [] = [] := rfl
      have hwA2 : wA [x.n] = [.vec [.int .i64 x.n] 1] := rfl
      cases o0 <;> simp only [Bool.false_eq_true, if_true, if_false, List.cons_ne_nil, hwv, hwv2, hwA, hwA2] at hloop <;> unfold fn123 <;>
        simp -implicitDefEqProofs only [code_skip, code_ops, code_kops, opsK_nil, opsK_cons, opK_move, opK_field, code_seq, code_cond, code_ret, ops_cons, ops_cons_g, ops_nil, aOp, opd, upd_at, upd_none, initTm_at, kt_cons, stepVal, stepHeap, aBin, aLen, aInt, aUn, aIndexList, isShift, aWanted, aLoad1, aStore, readAt, aField, leaf, acells_agg, acells_int, cellsSet, endFn, aResults, aResult, tupled, code_loopF, gc_mk, gcIds_mk, newIds_nil, newIds_cons, gcMap_at, posOf, ren, renC, renO_box, idsV, idsC, idsO_box, wipe_list, wipe_int, wipeR_bool, isData_list_none, isData_list_full, isData_int, isData_ptr, isDataL_nil, isDataL_cons, beq_self_eq_true, Option.map_some, Option.getD_some, List.map_cons, List.map_nil, List.flatMap_cons, List.flatMap_nil, List.length_cons, List.length_nil, List.length_map, List.cons_append, List.nil_append, List.append_nil, List.getElem?_cons_zero, List.getElem?_cons_succ, List.set_cons_zero, List.take_succ_cons, List.take_zero, List.drop_succ_cons, List.drop_zero, List.take_nil, List.drop_nil, List.all_cons, List.all_nil, List.not_mem_nil, ↓reduceIte, Bool.and_true, Bool.not_true, Bool.false_eq_true, and_true, not_false_eq_true, decide_true, and_self, Nat.le_refl, reduceCtorEq, Nat.add_zero, Nat.zero_add, Nat.reduceEqDiff, Nat.reduceAdd, Nat.reduceLT, Nat.reduceLeDiff, Int.toNat_natCast, Int.natCast_nonneg, List.cons_ne_nil, maxLen_eq, onlyVal, outOf_val, encExpr_eq, data_Ints, isData_vec, idsO_vec, renO_vec, hfact, hck, hmx, hm, hfree, hget, hall, ho, hne, hlt, hloop, hsort0, hv, hdE, hdX, opK_append, opK_buildSlice, opK_load1, isNew_e, aAppendV, doCall_p L hp, hp, bne, aIndexList]
    · have hsrt := hsortn hW (by omega)
      have hdL := data_Ints l
      have hv := heqv [.box [.int .i64 x.op, .int .i64 x.n, .list (x.binds.map encI) none, .list (x.kids.map encI) none, .list (x.alts.map encAlt) none], .vec (l.map encI) 1] (.vec 1 W.length) (by rw [hwl]; exact look_vec rfl)
      have hwv : wv 1 [] = .list [] (some none) := rfl
      have hwv2 : wv 1 [x.n] = .vec 1 1 := rfl
      have hwA : wA [] = [] := rfl
      have hwA2 : wA [x.n] = [.vec [.int .i64 x.n] 1] := rfl
      cases o0 <;> simp only [Bool.false_eq_true, if_true, if_false, List.cons_ne_nil, hwv, hwv2, hwA, hwA2] at hloop <;> unfold fn123 <;>
        simp -implicitDefEqProofs only [code_skip, code_ops, code_kops, opsK_nil, opsK_cons, opK_move, opK_field, code_seq, code_cond, code_ret, ops_cons, ops_cons_g, ops_nil, aOp, opd, upd_at, upd_none, initTm_at, kt_cons, stepVal, stepHeap, aBin, aLen, aInt, aUn, aIndexList, isShift, aWanted, aLoad1, aStore, readAt, aField, leaf, acells_agg, acells_int, cellsSet, endFn, aResults, aResult, tupled, code_loopF, gc_mk, gcIds_mk, newIds_nil, newIds_cons, gcMap_at, posOf, ren, renC, renO_box, idsV, idsC, idsO_box, wipe_list, wipe_int, wipeR_bool, isData_list_none, isData_list_full, isData_int, isData_tuple, isData_ptr, isDataL_nil, isDataL_cons, beq_self_eq_true, Option.map_some, Option.getD_some, List.map_cons, List.map_nil, List.flatMap_cons, List.flatMap_nil, List.length_cons, List.length_nil, List.length_map, List.cons_append, List.nil_append, List.append_nil, List.getElem?_cons_zero, List.getElem?_cons_succ, List.set_cons_zero, List.take_succ_cons, List.take_zero, List.drop_succ_cons, List.drop_zero, List.take_nil, List.drop_nil, List.all_cons, List.all_nil, List.not_mem_nil, ↓reduceIte, Bool.and_true, Bool.not_true, Bool.false_eq_true, and_true, not_false_eq_true, decide_true, and_self, Nat.le_refl, Nat.zero_le, reduceCtorEq, Nat.add_zero, Nat.zero_add, Nat.reduceEqDiff, Nat.reduceAdd, Nat.reduceLT, Nat.reduceLeDiff, Int.toNat_natCast, Int.natCast_nonneg, List.cons_ne_nil, maxLen_eq, onlyVal, rCall_eq, rootsOf_eq, grow_eq, subHeap_eq, newOf_val, putBack_eq, pb_nil, pb_cons, backRes_val, outOf_val, encExpr_eq, data_Ints, wipe_vec, isData_vec, idsO_vec, renO_vec, ids_Ints, ren_Ints, hfact, hck, hmx, hm, hfree, hget, hall, ho, hne, hlt, hloop, hsrt, hv, hdE, hdX, opK_append, opK_buildSlice, opK_load1, isNew_e, aAppendV, doCall_p L hp, hp, bne, aIndexList]
  exact hrest _ rfl
end
end Go.Abs
