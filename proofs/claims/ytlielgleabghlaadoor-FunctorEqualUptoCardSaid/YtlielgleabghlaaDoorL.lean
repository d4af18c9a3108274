/-
  PARTS OF A PROOF, joined: an abstract machine for quiet code, its evaluation, and what the seat's functions answer on it. Conditions: none.
-/
import Derived.Test.YtlielgleabghlaaDoorLawC
import Derived.KernelRfl
import Derived.Lib.ItoaNum
/-
  The law Subst on the abstract machine: names that are mentioned, a type's text. Conditions: none.
-/
set_option linter.unusedVariables false
set_option linter.unusedSimpArgs false
set_option maxRecDepth 100000
set_option maxHeartbeats 4000000
namespace Go.Abs

/-! ### Names that a type mentions -/
def mentionsB (l : List DataSig) : Ty → Bool
  | .mk k n v as => (k == 1 && l.any fun d => decide (d.name = n)) || as.attach.any fun a => mentionsB l a.1
  termination_by t => SizeOf.sizeOf t
  decreasing_by
    have := Ty.mem_size a.2
    simp only [Ty.mk.sizeOf_spec]
    omega
theorem mentionsB_eq (l : List DataSig) (k : Int) (n : ByteArray) (v : Int) (as : List Ty) : mentionsB l (.mk k n v as) = ((k == 1 && l.any fun d => decide (d.name = n)) || as.any (mentionsB l)) := by
  rw [mentionsB]
  simp

theorem men41 {L : Lib} (hL : Plain L) (hf : L.fns 41 = some fn41) (k v : Int) (n : ByteArray) (as : List Ty) (d : DataSig) (h : Heap) :
    pcall L 41 [.agg [.str d.name, .int .i64 d.params, .list (d.cons.map encCon) none], .vptr [.int .i64 k, .str n, .int .i64 v, .list (as.map encTy) none] 0] h = some (.val (.bool (decide (d.name = n))), h) := by
  have hp := hL.pure
  refine pcall_fn hL hf rfl ?_ h
  unfold fn41
  simp -implicitDefEqProofs only [code_ops, code_seq, code_ret, ops_cons, ops_nil, aOp, opd, upd_at, initTm_at, stepVal, aBin, aStr, aLoad1, aField, acells_agg, endFn, aResults, aResult, tupled, wipeR_bool, Option.getD_some, List.length_nil, List.nil_append, List.getElem?_cons_zero, List.getElem?_cons_succ, ↓reduceIte, Nat.add_zero, Nat.zero_add, Nat.reduceEqDiff, outOf_val, doCall_p L hp, hp]
theorem men43 {L : Lib} (hL : Plain L) (hf : L.fns 43 = some fn43) (l : List DataSig) (a : Ty) (b : Bool)
    (h13 : ∀ h : Heap, pcall L 13 [.agg [.int .i64 a.kind, .str a.name, .int .i64 a.var, .list (a.args.map encTy) none], .list (l.map encData) none] h = some (.val (.bool b), h)) (h : Heap) :
    pcall L 43 [.agg [.int .i64 a.kind, .str a.name, .int .i64 a.var, .list (a.args.map encTy) none], .vptr [.list (l.map encData) none] 0] h = some (.val (.bool b), h) := by
  have hp := hL.pure
  refine pcall_fn hL hf rfl ?_ h
  unfold fn43
  simp -implicitDefEqProofs only [code_ops, code_seq, code_ret, ops_cons, ops_nil, aOp, opd, upd_at, initTm_at, stepVal, aLoad1, readAt, acells_agg, endFn, aResults, aResult, tupled, wipe_agg, wipe_list, wipeR_bool, wipeC_list, wipeC_int, wipeC_str, isData_list_none, isData_int, isData_str, isData_agg, isDataL_nil, isDataL_cons, Option.map_some, Option.getD_some, List.map_cons, List.map_nil, List.length_cons, List.length_nil, List.nil_append, List.getElem?_cons_zero, List.getElem?_cons_succ, List.take_succ_cons, List.drop_zero, List.take_nil, ↓reduceIte, Bool.and_true, and_self, Nat.le_refl, Nat.zero_add, Nat.reduceEqDiff, Nat.reduceAdd, onlyVal, data_Tys, data_Datas, outOf_val, h13, doCall_p L hp, hp]
theorem mentions_ok {L : Lib} (hL : Plain L) (h40 : L.fns 40 = some fn40) (h41 : L.fns 41 = some fn41) (h42 : L.fns 42 = some fn42) (h43 : L.fns 43 = some fn43) (h62 : L.fns 62 = some fn62) (h63 : L.fns 63 = some fn63) (hf : L.fns 13 = some fn13)
    (l : List DataSig) (hl : l.length < 2 ^ 30) (t : Ty) (ht : TyFit t) : ∀ h : Heap,
    pcall L 13 [.agg [.int .i64 t.kind, .str t.name, .int .i64 t.var, .list (t.args.map encTy) none], .list (l.map encData) none] h = some (.val (.bool (mentionsB l t)), h) := by
  have hp := hL.pure
  induction t using Ty.ind with
  | h k n v as ih =>
    cases ht with
    | mk hla ha =>
    intro h
    simp only [Ty.kind_mk, Ty.name_mk, Ty.var_mk, Ty.args_mk]
    have hA := con40 hL h40 h62 (.func 41 [] [.vptr [.int .i64 k, .str n, .int .i64 v, .list (as.map encTy) none] 0]) (by simp -implicitDefEqProofs only [isData_list_none, isData_int, isData_str, isData_func, isData_vptr, isDataL_nil, isDataL_cons, Bool.and_true, data_Tys]) ⟨_, _, _, rfl⟩ (fun d => decide (d.name = n)) l hl (fun d hd h => by
      have h1 := men41 hL h41 k v n as d h
      simp -implicitDefEqProofs only [wipe_agg, wipe_vptr, wipeC_list, wipeC_int, wipeC_str, isData_list_none, isData_int, isData_str, isData_agg, isData_vptr, isDataL_nil, isDataL_cons, List.map_cons, List.map_nil, List.nil_append, ↓reduceIte, Bool.and_true, data_Tys, data_Cons, h1, doCall_p L hp, hp])
    have hB := con42 hL h42 h63 (.func 43 [] [.vptr [.list (l.map encData) none] 0]) (by simp -implicitDefEqProofs only [isData_list_none, isData_func, isData_vptr, isDataL_nil, isDataL_cons, Bool.and_true, data_Datas]) ⟨_, _, _, rfl⟩ (mentionsB l) as hla (fun a ha' h => by
      have h1 := men43 hL h43 l a (mentionsB l a) (fun h => ih a ha' (ha a ha') h) h
      simp -implicitDefEqProofs only [wipe_agg, wipe_vptr, wipeC_list, wipeC_int, wipeC_str, isData_list_none, isData_int, isData_str, isData_agg, isData_vptr, isDataL_nil, isDataL_cons, List.map_cons, List.map_nil, List.nil_append, ↓reduceIte, Bool.and_true, data_Tys, data_Datas, h1, doCall_p L hp, hp])
    rw [mentionsB_eq]
    refine pcall_fn hL hf rfl ?_ h
    unfold fn13
    by_cases hk : k = 1
    · subst hk
      cases hq : l.any (fun d => decide (d.name = n)) <;> simp only [hq] at hA <;> simp -implicitDefEqProofs only [code_skip, code_ops, code_seq, code_cond, code_ret, ops_cons, ops_cons_g, ops_nil, aOp, opd, upd_at, initTm_at, stepVal, aBin, aInt, isShift, aWanted, aLoad1, aField, leaf, acells_agg, acells_list, endFn, aResults, aResult, tupled, wipe_list, wipeR_bool, wipe_func, isData_list_none, isData_int, isData_str, isData_func, isData_vptr, isDataL_nil, isDataL_cons, beq_self_eq_true, Option.getD_some, List.map_cons, List.map_nil, List.length_cons, List.length_nil, List.cons_append, List.nil_append, List.append_nil, List.getElem?_cons_zero, List.getElem?_cons_succ, List.set_cons_zero, List.set_cons_succ, List.all_cons, List.all_nil, ↓reduceIte, Bool.and_true, Bool.and_false, Bool.true_or, Bool.false_or, Bool.false_eq_true, and_self, reduceCtorEq, Nat.add_zero, Nat.zero_add, Nat.reduceEqDiff, code_freeze, freezeS_mk, frzT_at, frz, frzC, frzO, data_Tys, data_Datas, outOf_val, hA, hB, doCall_p L hp, hp]
    · have hd : (k == 1) = false := by simpa using hk
      simp -implicitDefEqProofs only [code_skip, code_ops, code_seq, code_cond, code_ret, ops_cons, ops_cons_g, ops_nil, aOp, opd, upd_at, initTm_at, stepVal, aBin, aInt, isShift, aWanted, aLoad1, aField, leaf, acells_agg, acells_list, endFn, aResults, aResult, tupled, wipe_list, wipeR_bool, wipe_func, isData_list_none, isData_int, isData_str, isData_func, isData_vptr, isDataL_nil, isDataL_cons, beqFT, Option.getD_some, List.map_cons, List.map_nil, List.length_cons, List.length_nil, List.cons_append, List.nil_append, List.append_nil, List.getElem?_cons_zero, List.getElem?_cons_succ, List.set_cons_zero, List.set_cons_succ, List.all_cons, List.all_nil, ↓reduceIte, Bool.and_true, Bool.false_and, Bool.false_or, Bool.false_eq_true, and_self, reduceCtorEq, Nat.add_zero, Nat.zero_add, Nat.reduceEqDiff, code_freeze, freezeS_mk, frzT_at, frz, frzC, frzO, data_Tys, data_Datas, outOf_val, hd, hB, doCall_p L hp, hp]

/-! ### Numbers as text -/
def inI (n : Int) : Prop := -9223372036854775808 ≤ n ∧ n < 9223372036854775808
theorem run64 {L : Lib} (hL : Plain L) (hf : L.fns 64 = some fn64) {n : Int} {s : ByteArray} (hr : (endFn fn64.results (aCodeN L.pure noCall 8 fn64.body ⟨initTm [.int .i64 n], []⟩)).map (·.1) = some (.val (.str s))) (h : Heap) :
    pcall L 64 [.int .i64 n] h = some (.val (.str s), h) := by
  obtain ⟨⟨r, h'⟩, h2, h3⟩ := Option.map_eq_some_iff.1 hr
  dsimp only at h3
  subst h3
  have h4 := endFn_mono (rs := fn64.results) (aCodeN_aCode (pure := L.pure) (c1 := noCall) (c2 := call L) (fun _ _ _ => Le.none _) 8 fn64.body ⟨initTm [.int .i64 n], []⟩) _ h2
  exact pcall_of h' (hL.summ 64 (by rw [hf]; exact fun hx => by cases hx)) hf h4 rfl h
def NumAt (L : Lib) (n : Int) (m : Nat) : Prop := ∃ s : ByteArray, s.size ≤ m ∧ ∀ h : Heap, pcall L 64 [.int .i64 n] h = some (.val (.str s), h)
theorem num_digit {L : Lib} (hL : Plain L) (hf : L.fns 64 = some fn64) (n : Int) (h0 : 0 ≤ n) (h1 : n < 10) : NumAt L n 1 := by
  have : n = 0 ∨ n = 1 ∨ n = 2 ∨ n = 3 ∨ n = 4 ∨ n = 5 ∨ n = 6 ∨ n = 7 ∨ n = 8 ∨ n = 9 := by omega
  rcases this with rfl | rfl | rfl | rfl | rfl | rfl | rfl | rfl | rfl | rfl
  · exact ⟨⟨#[48]⟩, Nat.le_refl _, run64 hL hf (by kernel_rfl)⟩
  · exact ⟨⟨#[49]⟩, Nat.le_refl _, run64 hL hf (by kernel_rfl)⟩
  · exact ⟨⟨#[50]⟩, Nat.le_refl _, run64 hL hf (by kernel_rfl)⟩
  · exact ⟨⟨#[51]⟩, Nat.le_refl _, run64 hL hf (by kernel_rfl)⟩
  · exact ⟨⟨#[52]⟩, Nat.le_refl _, run64 hL hf (by kernel_rfl)⟩
  · exact ⟨⟨#[53]⟩, Nat.le_refl _, run64 hL hf (by kernel_rfl)⟩
  · exact ⟨⟨#[54]⟩, Nat.le_refl _, run64 hL hf (by kernel_rfl)⟩
  · exact ⟨⟨#[55]⟩, Nat.le_refl _, run64 hL hf (by kernel_rfl)⟩
  · exact ⟨⟨#[56]⟩, Nat.le_refl _, run64 hL hf (by kernel_rfl)⟩
  · exact ⟨⟨#[57]⟩, Nat.le_refl _, run64 hL hf (by kernel_rfl)⟩
theorem num_pos {L : Lib} (hL : Plain L) (hf : L.fns 64 = some fn64) : ∀ (d : Nat), d < 19 → ∀ n : Int, 0 ≤ n → n < 10 ^ (d + 1) → NumAt L n (d + 1)
  | 0, _, n, h0, h1 => num_digit hL hf n h0 (by simpa using h1)
  | d + 1, hd, n, h0, h1 => by
    by_cases h10 : n < 10
    · obtain ⟨s, h2, h3⟩ := num_digit hL hf n h0 h10
      exact ⟨s, by omega, h3⟩
    · have hp := hL.pure
      have hpow : (10 : Int) ^ (d + 1 + 1) = 10 ^ (d + 1) * 10 := by rw [Int.pow_succ]
      have hq1 : n.tdiv 10 < 10 ^ (d + 1) := by
        rw [Int.tdiv_eq_ediv_of_nonneg h0]
        omega
      have hq0 : 0 ≤ n.tdiv 10 := by
        rw [Int.tdiv_eq_ediv_of_nonneg h0]
        omega
      have hr : 0 ≤ n.tmod 10 ∧ n.tmod 10 < 10 := by
        rw [Int.tmod_eq_emod_of_nonneg h0]
        omega
      have hbig : (10 : Int) ^ (d + 1) ≤ 10 ^ 19 := by
        have : (10 : Nat) ^ (d + 1) ≤ 10 ^ 19 := Nat.pow_le_pow_right (by omega) (by omega)
        exact_mod_cast this
      have hw : IntKind.i64.wrap (n.tdiv 10) = n.tdiv 10 := by
        rw [wrap64 (by omega) ?_]
        have h18 : (10 : Int) ^ (d + 1) ≤ 10 ^ 18 := by
          have : (10 : Nat) ^ (d + 1) ≤ 10 ^ 18 := Nat.pow_le_pow_right (by omega) (by omega)
          exact_mod_cast this
        omega
      obtain ⟨a, ha1, ha2⟩ := num_pos hL hf d (by omega) (n.tdiv 10) hq0 hq1
      obtain ⟨b, hb1, hb2⟩ := num_digit hL hf (n.tmod 10) hr.1 hr.2
      refine ⟨a ++ b, by rw [ByteArray.size_append]; omega, fun h => ?_⟩
      have g1 : ¬ n ≤ -10 := by omega
      have g2 : ¬ n < 0 := by omega
      have g3 : a.size + b.size ≤ 2 ^ 60 := by omega
      refine pcall_fn hL hf rfl ?_ h
      unfold fn64
      simp -implicitDefEqProofs only [code_skip, code_ops, code_seq, code_cond, code_ret, ops_cons, ops_nil, aOp, opd, upd_at, initTm_at, stepVal, aBin, aStr, aInt, isShift, endFn, aResults, aResult, tupled, wipe_int, wipeR_str, isData_int, isDataL_nil, isDataL_cons, Option.getD_some, List.map_cons, List.map_nil, List.getElem?_cons_zero, ↓reduceIte, Bool.and_true, Bool.false_eq_true, decide_false, and_self, reduceCtorEq, Nat.reduceEqDiff, Int.reduceEq, Int.reduceNeg, onlyVal, outOf_val, g1, g2, h10, hw, ha2, hb2, g3, doCall_p L hp, hp]
end Go.Abs
/-
  The law Subst on the abstract machine, second part: a type's text, and the law. Conditions: none.
-/
set_option linter.unusedVariables false
set_option linter.unusedSimpArgs false
set_option maxRecDepth 100000
set_option maxHeartbeats 4000000
namespace Go.Abs

theorem num_neg {L : Lib} (hL : Plain L) (hf : L.fns 64 = some fn64) : ∀ (d : Nat), d < 19 → ∀ m : Int, 0 < m → m ≤ 9223372036854775808 → m < 10 ^ (d + 1) → NumAt L (-m) (d + 2)
  | d, hd, m, h0, hm, h1 => by
    have hp := hL.pure
    by_cases h10 : m < 10
    · obtain ⟨s, h2, h3⟩ := num_digit hL hf m (by omega) h10
      have hw : IntKind.i64.wrap (0 - -m) = m := by
        rw [wrap64 (by omega) (by omega)]
        omega
      have g1 : ¬ -m ≤ -10 := by omega
      have g2 : -m < 0 := by omega
      have g3 : (⟨#[45]⟩ : ByteArray).size + s.size ≤ 2 ^ 60 := by
        have : (⟨#[45]⟩ : ByteArray).size = 1 := rfl
        omega
      refine ⟨⟨#[45]⟩ ++ s, by rw [ByteArray.size_append]; have : (⟨#[45]⟩ : ByteArray).size = 1 := rfl; omega, fun h => ?_⟩
      refine pcall_fn hL hf rfl ?_ h
      unfold fn64
      simp -implicitDefEqProofs only [code_skip, code_ops, code_seq, code_cond, code_ret, ops_cons, ops_nil, aOp, opd, upd_at, initTm_at, stepVal, aBin, aStr, aInt, aUn, isShift, endFn, aResults, aResult, tupled, wipe_int, wipeR_str, isData_int, isDataL_nil, isDataL_cons, Option.getD_some, List.map_cons, List.map_nil, List.getElem?_cons_zero, ↓reduceIte, Bool.and_true, Bool.false_eq_true, decide_true, decide_false, and_self, reduceCtorEq, Int.reduceNeg, onlyVal, outOf_val, g1, g2, hw, h3, g3, doCall_p L hp, hp]
    · cases d with
      | zero => exact absurd h1 (by simpa using h10)
      | succ d =>
        have hpow : (10 : Int) ^ (d + 1 + 1) = 10 ^ (d + 1) * 10 := by rw [Int.pow_succ]
        have e1 : (-m).tdiv 10 = -(m / 10) := by rw [Int.neg_tdiv, Int.tdiv_eq_ediv_of_nonneg (by omega)]
        have e2 : (-m).tmod 10 = -(m % 10) := by rw [Int.neg_tmod, Int.tmod_eq_emod_of_nonneg (by omega)]
        obtain ⟨a, ha1, ha2⟩ := num_neg hL hf d (by omega) (m / 10) (by omega) (by omega) (by omega)
        obtain ⟨b, hb1, hb2⟩ := num_digit hL hf (m % 10) (by omega) (by omega)
        have hw1 : IntKind.i64.wrap (-(m / 10)) = -(m / 10) := wrap64 (by omega) (by omega)
        have hw2 : IntKind.i64.wrap (0 - -(m % 10)) = m % 10 := by
          rw [wrap64 (by omega) (by omega)]
          omega
        have g1 : -m ≤ -10 := by omega
        have g3 : a.size + b.size ≤ 2 ^ 60 := by omega
        refine ⟨a ++ b, by rw [ByteArray.size_append]; omega, fun h => ?_⟩
        refine pcall_fn hL hf rfl ?_ h
        unfold fn64
        simp -implicitDefEqProofs only [code_ops, code_seq, code_cond, code_ret, ops_cons, ops_nil, aOp, opd, upd_at, initTm_at, stepVal, aBin, aStr, aInt, aUn, isShift, endFn, aResults, aResult, tupled, wipe_int, wipeR_str, isData_int, isDataL_nil, isDataL_cons, Option.getD_some, List.map_cons, List.map_nil, List.getElem?_cons_zero, ↓reduceIte, Bool.and_true, Bool.false_eq_true, decide_true, and_self, reduceCtorEq, Nat.reduceEqDiff, Int.reduceEq, Int.reduceNeg, onlyVal, outOf_val, g1, e1, e2, hw1, hw2, ha2, hb2, g3, doCall_p L hp, hp]
theorem num_all {L : Lib} (hL : Plain L) (hf : L.fns 64 = some fn64) {n : Int} (hn : inI n) : NumAt L n 24 := by
  obtain ⟨h1, h2⟩ := hn
  by_cases h0 : 0 ≤ n
  · obtain ⟨s, g1, g2⟩ := num_pos hL hf 18 (by omega) n h0 (by omega)
    exact ⟨s, by omega, g2⟩
  · obtain ⟨s, g1, g2⟩ := num_neg hL hf 18 (by omega) (-n) (by omega) (by omega) (by omega)
    rw [Int.neg_neg] at g2
    exact ⟨s, by omega, g2⟩

/-! ### A type as text -/
structure NumOk (L : Lib) (N : Int → ByteArray) : Prop where
  size : ∀ n, inI n → (N n).size ≤ 24
  call : ∀ n, inI n → ∀ h : Heap, pcall L 64 [.int .i64 n] h = some (.val (.str (N n)), h)
theorem num_fn {L : Lib} (hL : Plain L) (hf : L.fns 64 = some fn64) : ∃ N, NumOk L N := by
  have : ∀ n : Int, ∃ s : ByteArray, inI n → s.size ≤ 24 ∧ ∀ h : Heap, pcall L 64 [.int .i64 n] h = some (.val (.str s), h) := by
    intro n
    by_cases hn : inI n
    · obtain ⟨s, h⟩ := num_all hL hf hn
      exact ⟨s, fun _ => h⟩
    · exact ⟨⟨#[]⟩, fun h => absurd h hn⟩
  refine ⟨fun n => Classical.choose (this n), fun n hn => (Classical.choose_spec (this n) hn).1, fun n hn => (Classical.choose_spec (this n) hn).2⟩

inductive TyI : Ty → Prop
  | mk {k : Int} {n : ByteArray} {v : Int} {as : List Ty} (hk : inI k) (hv : k = 0 → inI v) (ha : ∀ a ∈ as, TyI a) : TyI (.mk k n v as)
def wt : Ty → Nat
  | .mk k n v as => 80 + n.size + (as.attach.map fun a => wt a.1 + 1).sum
  termination_by t => SizeOf.sizeOf t
  decreasing_by
    have := Ty.mem_size a.2
    simp only [Ty.mk.sizeOf_spec]
    omega
theorem wt_eq (k : Int) (n : ByteArray) (v : Int) (as : List Ty) : wt (.mk k n v as) = 80 + n.size + (as.map fun a => wt a + 1).sum := by
  rw [wt]
  simp
def headT (N : Int → ByteArray) (k : Int) (n : ByteArray) (v : Int) : ByteArray :=
  let o := if k = 0 then (N k ++ ⟨#[60]⟩) ++ N v else N k ++ ⟨#[60]⟩
  if k = 1 ∨ k = 5 then o ++ ((N n.size ++ ⟨#[58]⟩) ++ n) else o
def textB (N : Int → ByteArray) : Ty → ByteArray
  | .mk k n v as => (as.attach.foldl (fun o a => o ++ (⟨#[59]⟩ ++ textB N a.1)) (headT N k n v)) ++ ⟨#[62]⟩
  termination_by t => SizeOf.sizeOf t
  decreasing_by
    have := Ty.mem_size a.2
    simp only [Ty.mk.sizeOf_spec]
    omega
theorem textB_eq (N : Int → ByteArray) (k : Int) (n : ByteArray) (v : Int) (as : List Ty) : textB N (.mk k n v as) = (as.foldl (fun o a => o ++ (⟨#[59]⟩ ++ textB N a)) (headT N k n v)) ++ ⟨#[62]⟩ := by
  rw [textB]
  simp

theorem size_one (b : UInt8) : (⟨#[b]⟩ : ByteArray).size = 1 := rfl
theorem head_size {L : Lib} {N : Int → ByteArray} (hN : NumOk L N) {k : Int} {n : ByteArray} {v : Int} (hk : inI k) (hv : k = 0 → inI v) (hn : n.size ≤ 2 ^ 59) : (headT N k n v).size ≤ 78 + n.size := by
  have h1 := hN.size k hk
  have h2 : k = 0 → _ := fun h0 => hN.size v (hv h0)
  have h3 := hN.size n.size ⟨by omega, by omega⟩
  unfold headT
  split
  · have h2 := h2 ‹_›
    split <;> simp only [ByteArray.size_append, size_one] <;> omega
  · split <;> simp only [ByteArray.size_append, size_one] <;> omega
theorem fold_size (f : Ty → ByteArray) (g : Ty → Nat) : ∀ (as : List Ty) (x : ByteArray), (∀ a ∈ as, (f a).size ≤ g a) → (as.foldl (fun o a => o ++ (⟨#[59]⟩ ++ f a)) x).size ≤ x.size + (as.map fun a => g a + 1).sum
  | [], x, _ => by simp
  | a :: as, x, h => by
    have h1 := fold_size f g as (x ++ (⟨#[59]⟩ ++ f a)) fun b hb => h b (by simp [hb])
    have h2 := h a (by simp)
    simp only [ByteArray.size_append, size_one] at h1
    simp only [List.foldl_cons, List.map_cons, List.sum_cons]
    omega
theorem sum_take (g : Ty → Nat) : ∀ (as : List Ty) (i : Nat), ((as.take i).map g).sum ≤ (as.map g).sum
  | [], i => by simp
  | a :: as, 0 => by simp
  | a :: as, i + 1 => by
    have := sum_take g as i
    simp only [List.take_succ_cons, List.map_cons, List.sum_cons]
    omega
theorem mem_sum (g : Ty → Nat) {a : Ty} : ∀ {as : List Ty}, a ∈ as → g a ≤ (as.map g).sum
  | b :: as, h => by
    simp only [List.map_cons, List.sum_cons]
    rcases List.mem_cons.1 h with rfl | h
    · omega
    · have := mem_sum g h
      omega

theorem text_size {L : Lib} {N : Int → ByteArray} (hN : NumOk L N) {t : Ty} (hi : TyI t) (hw : wt t ≤ 2 ^ 59) : (textB N t).size ≤ wt t := by
  induction t using Ty.ind with
  | h k n v as ih =>
    cases hi with
    | mk hk hv ha =>
    rw [wt_eq] at hw ⊢
    rw [textB_eq, ByteArray.size_append, size_one]
    have h1 := head_size hN hk hv (n := n) (by omega)
    have h2 := fold_size (textB N) wt as (headT N k n v) fun a ha' => ih a ha' (ha a ha') (by have := mem_sum (fun a => wt a + 1) ha'; omega)
    omega

def text_C (N : Int → ByteArray) (k v : Int) (n : ByteArray) (as : List Ty) (i : Nat) : St :=
  ⟨kt [3, 37, 38, 39] [.str ((as.take i).foldl (fun o a => o ++ (⟨#[59]⟩ ++ textB N a)) (headT N k n v)), .list (as.map encTy) none, .int .i64 as.length, .int .i64 i], [.box [.int .i64 k, .str n, .int .i64 v, .list (as.map encTy) none]]⟩
theorem text_l0 {L : Lib} (hL : Plain L) {N : Int → ByteArray} (k v : Int) (n : ByteArray) (as : List Ty) (hl : as.length < 2 ^ 30)
    (ih : ∀ a ∈ as, (textB N a).size ≤ 2 ^ 59 ∧ ∀ h : Heap, pcall L 45 [.agg [.int .i64 a.kind, .str a.name, .int .i64 a.var, .list (a.args.map encTy) none]] h = some (.val (.str (textB N a)), h))
    (hsz : ∀ i, ∀ a ∈ as, ((as.take i).foldl (fun o a => o ++ (⟨#[59]⟩ ++ textB N a)) (headT N k n v)).size + (⟨#[59]⟩ ++ textB N a).size ≤ 2 ^ 60) :
    loopF L.pure (call L) 1 [3, 37, 38, 39] [3] 0 fn45_l0 (text_C N k v n as 0) = some (.normal, ⟨kt [3] [.str (as.foldl (fun o a => o ++ (⟨#[59]⟩ ++ textB N a)) (headT N k n v))], (text_C N k v n as 0).h⟩) := by
  have hp := hL.pure
  refine loopF_count (text_C N k v n as) as.length (fun i hi => ?_) ?_
  · obtain ⟨h1, h2, h3⟩ := round_facts encTy as hl i hi
    obtain ⟨i1, i2⟩ := ih as[i] (List.getElem_mem hi)
    have s1 : (⟨#[59]⟩ : ByteArray).size + (textB N as[i]).size ≤ 2 ^ 60 := by
      rw [size_one]
      omega
    have s2 := hsz i as[i] (List.getElem_mem hi)
    have s3 : (as.take (i + 1)).foldl (fun o a => o ++ (⟨#[59]⟩ ++ textB N a)) (headT N k n v) = (as.take i).foldl (fun o a => o ++ (⟨#[59]⟩ ++ textB N a)) (headT N k n v) ++ (⟨#[59]⟩ ++ textB N as[i]) := by
      rw [List.take_succ_eq_append_getElem hi, List.foldl_append]
      rfl
    unfold text_C
    rw [s3]
    generalize (as.take i).foldl (fun o a => o ++ (⟨#[59]⟩ ++ textB N a)) (headT N k n v) = out at *
    generalize as[i] = a at *
    unfold fn45_l0
    simp -implicitDefEqProofs only [code_skip, code_ops, code_seq, code_cond, code_block, ops_cons, ops_nil, aOp, opd, upd_at, upd_none, kt_cons, stepVal, stepHeap, aBin, aStr, aInt, aIndexList, isShift, aStore, readAt, leaf, acells_agg, cellsSet, gc_mk, gcIds_mk, newIds_nil, gcMap_at, posOf, ren, renC, renO_box, idsV, idsC, idsO_box, wipe_agg, wipeC_list, wipeC_int, wipeC_str, isData_list_none, isData_int, isData_str, isData_agg, isDataL_nil, isDataL_cons, Option.map_some, List.map_cons, List.map_nil, List.flatMap_cons, List.flatMap_nil, List.length_cons, List.length_nil, List.cons_append, List.nil_append, List.append_nil, List.getElem?_cons_zero, List.getElem?_cons_succ, List.set_cons_zero, List.set_cons_succ, List.take_succ_cons, List.take_zero, List.drop_succ_cons, List.drop_zero, List.take_nil, List.drop_nil, List.all_cons, List.all_nil, ↓reduceIte, Bool.and_true, Bool.false_eq_true, decide_true, and_self, Nat.le_refl, Nat.zero_add, Nat.reduceEqDiff, Nat.reduceAdd, Nat.reduceLeDiff, Int.toNat_natCast, Int.natCast_nonneg, roundF_eq, kt_nil, onlyVal, encTy_eq, data_Tys, h1, h2, h3, i2, s1, s2, doCall_p L hp, hp]
  · have h0 : ¬ ((as.length : Int) < as.length) := by omega
    unfold text_C
    rw [List.take_length]
    generalize as.foldl (fun o a => o ++ (⟨#[59]⟩ ++ textB N a)) (headT N k n v) = out at *
    unfold fn45_l0
    simp -implicitDefEqProofs only [code_ops, code_seq, code_cond, code_exit, ops_cons, ops_nil, aOp, opd, upd_at, kt_cons, stepVal, aBin, aInt, isShift, gcE, gc_mk, gcIds_mk, newIds_nil, gcMap_at, posOf, ren, renC, renO_box, idsV, idsC, idsO_box, isData_list_none, isData_int, isData_str, List.map_cons, List.map_nil, List.flatMap_cons, List.flatMap_nil, List.length_cons, List.length_nil, List.append_nil, List.take_succ_cons, List.take_nil, ↓reduceIte, Bool.false_eq_true, decide_false, Nat.le_refl, Nat.zero_add, Nat.reduceEqDiff, roundF_eq, kt_nil, data_Tys, h0]

theorem text_ok {L : Lib} (hL : Plain L) (hf : L.fns 45 = some fn45) {N : Int → ByteArray} (hN : NumOk L N) (t : Ty) (ht : TyFit t) (hi : TyI t) (hw : wt t ≤ 2 ^ 59) : ∀ h : Heap,
    pcall L 45 [.agg [.int .i64 t.kind, .str t.name, .int .i64 t.var, .list (t.args.map encTy) none]] h = some (.val (.str (textB N t)), h) := by
  have hp := hL.pure
  have hsize := text_size hN hi hw
  induction t using Ty.ind with
  | h k n v as ih =>
    cases ht with
    | mk hla ha =>
    cases hi with
    | mk hk hv hai =>
    intro h
    have hw' := hw
    rw [wt_eq] at hw
    have hsum : ∀ a ∈ as, wt a + 1 ≤ (as.map fun a => wt a + 1).sum := fun a ha' => mem_sum (fun a => wt a + 1) ha'
    have hsa : ∀ a ∈ as, (textB N a).size ≤ wt a := fun a ha' => text_size hN (hai a ha') (by have := hsum a ha'; omega)
    have hh := head_size hN hk hv (n := n) (by omega)
    have hloop := text_l0 hL (N := N) k v n as hla (fun a ha' => ⟨by have := hsum a ha'; have := hsa a ha'; omega, ih a ha' (ha a ha') (hai a ha') (by have := hsum a ha'; omega) (hsa a ha')⟩) (fun i a ha' => by
      have h1 := fold_size (textB N) wt (as.take i) (headT N k n v) fun b hb => hsa b (List.mem_of_mem_take hb)
      have h2 := sum_take (fun a => wt a + 1) as i
      have h3 := hsum a ha'
      have h4 := hsa a ha'
      rw [ByteArray.size_append, size_one]
      omega)
    have hfs := fold_size (textB N) wt as (headT N k n v) hsa
    unfold text_C at hloop
    simp only [Int.natCast_zero, List.take_zero, List.foldl_nil] at hloop
    simp only [Ty.kind_mk, Ty.name_mk, Ty.var_mk, Ty.args_mk]
    rw [textB_eq]
    have z3 : (as.foldl (fun o a => o ++ (⟨#[59]⟩ ++ textB N a)) (headT N k n v)).size + (⟨#[62]⟩ : ByteArray).size ≤ 2 ^ 60 := by
      rw [size_one]
      omega
    generalize as.foldl (fun o a => o ++ (⟨#[59]⟩ ++ textB N a)) (headT N k n v) = out at *
    have n1 := hN.call k hk
    have n2 : k = 0 → _ := fun h0 => hN.call v (hv h0)
    have n3 := hN.call n.size ⟨by omega, by omega⟩
    have y1 := hN.size k hk
    have y2 : k = 0 → _ := fun h0 => hN.size v (hv h0)
    have y3 := hN.size n.size ⟨by omega, by omega⟩
    have z0 : (N k).size + (⟨#[60]⟩ : ByteArray).size ≤ 2 ^ 60 := by
      rw [size_one]
      omega
    have z1 : k = 0 → (N k ++ ⟨#[60]⟩).size + (N v).size ≤ 2 ^ 60 := fun h0 => by
      have y2 := y2 h0
      rw [ByteArray.size_append, size_one]
      omega
    have z4 : (N n.size).size + (⟨#[58]⟩ : ByteArray).size ≤ 2 ^ 60 := by
      rw [size_one]
      omega
    have z5 : (N n.size ++ ⟨#[58]⟩).size + n.size ≤ 2 ^ 60 := by
      rw [ByteArray.size_append, size_one]
      omega
    have z6 : (N k ++ ⟨#[60]⟩).size + ((N n.size ++ ⟨#[58]⟩) ++ n).size ≤ 2 ^ 60 := by
      simp only [ByteArray.size_append, size_one]
      omega
    refine pcall_fn hL hf rfl ?_ h
    unfold fn45
    unfold headT at hloop
    by_cases k0 : k = 0
    · subst k0
      have n2 := n2 rfl
      have z1 := z1 rfl
      rw [if_pos rfl, if_neg (by omega)] at hloop
      simp -implicitDefEqProofs only [code_skip, code_ops, code_seq, code_cond, code_ret, ops_cons, ops_cons_g, ops_nil, aOp, opd, upd_at, initTm_at, kt_cons, stepVal, aBin, aStr, aLen, aInt, isShift, aWanted, aLoad1, aField, acells_agg, endFn, aResults, aResult, tupled, code_loopF, gc_mk, gcIds_mk, newIds_nil, gcMap_at, posOf, ren, renC, renO_box, idsV, idsC, idsO_box, wipe_int, wipeR_str, isData_list_none, isData_int, isData_str, isDataL_nil, isDataL_cons, beq_self_eq_true, Option.getD_some, List.map_cons, List.map_nil, List.flatMap_cons, List.flatMap_nil, List.length_cons, List.length_nil, List.length_map, List.nil_append, List.append_nil, List.getElem?_cons_zero, List.getElem?_cons_succ, List.take_succ_cons, List.take_nil, ↓reduceIte, Bool.and_true, Bool.false_eq_true, and_self, Nat.le_refl, Nat.add_zero, Nat.zero_add, Nat.reduceEqDiff, Int.reduceBEq, onlyVal, data_Tys, outOf_val, n1, n2, z0, z1, z3, hloop, doCall_p L hp, hp]
    · have d0 : (k == 0) = false := by simpa using k0
      rw [if_neg k0] at hloop
      by_cases k1 : k = 1
      · subst k1
        rw [if_pos (.inl rfl)] at hloop
        simp -implicitDefEqProofs only [code_skip, code_ops, code_draw, code_seq, code_cond, code_ret, ops_cons, ops_cons_g, ops_nil, aOp, opd, upd_at, initTm_at, kt_cons, stepVal, aBin, aStr, aLen, aInt, isShift, aWanted, aLoad1, aField, acells_agg, endFn, aResults, aResult, tupled, code_loopF, gc_mk, gcIds_mk, newIds_nil, gcMap_at, posOf, ren, renC, renO_box, idsV, idsC, idsO_box, draw_eq, opsH_nil, opsH_cons, isLoud, wipe_int, wipeR_str, isData_list_none, isData_int, isData_str, isDataL_nil, isDataL_cons, beqTF, beq_self_eq_true, Option.getD_some, List.map_cons, List.map_nil, List.flatMap_cons, List.flatMap_nil, List.length_cons, List.length_nil, List.length_map, List.nil_append, List.append_nil, List.getElem?_cons_zero, List.getElem?_cons_succ, List.take_succ_cons, List.take_nil, ↓reduceIte, Bool.and_true, Bool.false_eq_true, and_self, Nat.le_refl, Nat.add_zero, Nat.zero_add, Nat.reduceEqDiff, checksP_nil, drawTo_if, Int.reduceBEq, onlyVal, data_Tys, outOf_val, n1, n3, z0, z3, z4, z5, z6, hloop, doCall_p L hp, hp]
      · have d1 : (k == 1) = false := by simpa using k1
        by_cases k5 : k = 5
        · subst k5
          rw [if_pos (.inr rfl)] at hloop
          simp -implicitDefEqProofs only [code_skip, code_ops, code_draw, code_seq, code_cond, code_ret, ops_cons, ops_cons_g, ops_nil, aOp, opd, upd_at, initTm_at, kt_cons, stepVal, aBin, aStr, aLen, aInt, isShift, aWanted, aLoad1, aField, acells_agg, endFn, aResults, aResult, tupled, code_loopF, gc_mk, gcIds_mk, newIds_nil, gcMap_at, posOf, ren, renC, renO_box, idsV, idsC, idsO_box, draw_eq, opsH_nil, opsH_cons, isLoud, wipe_int, wipeR_str, isData_list_none, isData_int, isData_str, isDataL_nil, isDataL_cons, beq_self_eq_true, Option.getD_some, List.map_cons, List.map_nil, List.flatMap_cons, List.flatMap_nil, List.length_cons, List.length_nil, List.length_map, List.nil_append, List.append_nil, List.getElem?_cons_zero, List.getElem?_cons_succ, List.take_succ_cons, List.take_nil, ↓reduceIte, Bool.and_true, Bool.false_eq_true, and_self, Nat.le_refl, Nat.add_zero, Nat.zero_add, Nat.reduceEqDiff, checksP_nil, drawTo_if, Int.reduceBEq, onlyVal, data_Tys, outOf_val, n1, n3, z0, z3, z4, z5, z6, hloop, doCall_p L hp, hp]
        · have d5 : (k == 5) = false := by simpa using k5
          rw [if_neg (by simp [k1, k5])] at hloop
          simp -implicitDefEqProofs only [code_skip, code_ops, code_seq, code_cond, code_ret, ops_cons, ops_cons_g, ops_nil, aOp, opd, upd_at, initTm_at, kt_cons, stepVal, aBin, aStr, aLen, aInt, isShift, aWanted, aLoad1, aField, acells_agg, endFn, aResults, aResult, tupled, code_loopF, gc_mk, gcIds_mk, newIds_nil, gcMap_at, posOf, ren, renC, renO_box, idsV, idsC, idsO_box, wipe_int, wipeR_str, isData_list_none, isData_int, isData_str, isDataL_nil, isDataL_cons, beq_self_eq_true, Option.getD_some, List.map_cons, List.map_nil, List.flatMap_cons, List.flatMap_nil, List.length_cons, List.length_nil, List.length_map, List.nil_append, List.append_nil, List.getElem?_cons_zero, List.getElem?_cons_succ, List.take_succ_cons, List.take_nil, ↓reduceIte, Bool.and_true, Bool.false_eq_true, and_self, Nat.le_refl, Nat.add_zero, Nat.zero_add, Nat.reduceEqDiff, onlyVal, data_Tys, outOf_val, n1, d0, d1, d5, z0, z3, hloop, doCall_p L hp, hp]
end Go.Abs
/-
  Numbers as text, and what a type's text tells. Conditions: none.
-/
set_option linter.unusedVariables false
set_option linter.unusedSimpArgs false
set_option maxRecDepth 100000
set_option maxHeartbeats 4000000
namespace Go.Abs

/-! ### Numerals -/
def decB (n : Nat) : ByteArray := ⟨(Lib.decDigits n).toArray⟩
theorem dec_digit {n : Nat} (h : n < 10) : decB n = ⟨#[UInt8.ofNat (48 + n)]⟩ := by
  unfold decB
  rw [Lib.decDigits, dif_pos h]
theorem bytes_app (a b : List UInt8) : (⟨(a ++ b).toArray⟩ : ByteArray) = ⟨a.toArray⟩ ++ ⟨b.toArray⟩ := by
  apply ByteArray.ext
  simp [ByteArray.data_append]
theorem dec_more {n : Nat} (h : ¬ n < 10) : decB n = decB (n / 10) ++ decB (n % 10) := by
  rw [dec_digit (n := n % 10) (by omega)]
  unfold decB
  rw [Lib.decDigits, dif_neg h]
  exact bytes_app _ _

def valD (l : List UInt8) : Nat := l.foldl (fun x b => x * 10 + (b.toNat - 48)) 0
theorem decD_val (n : Nat) : valD (Lib.decDigits n) = n := by
  induction n using Nat.strongRecOn with
  | ind n ih =>
    rw [Lib.decDigits]
    by_cases h : n < 10
    · rw [dif_pos h]
      have : (UInt8.ofNat (48 + n)).toNat = 48 + n := by rw [UInt8.toNat_ofNat']; omega
      simp only [valD, List.foldl_cons, List.foldl_nil, this]
      omega
    · rw [dif_neg h]
      have : (UInt8.ofNat (48 + n % 10)).toNat = 48 + n % 10 := by rw [UInt8.toNat_ofNat']; omega
      have h1 := ih (n / 10) (by omega)
      unfold valD at h1 ⊢
      rw [List.foldl_append, h1]
      simp only [List.foldl_cons, List.foldl_nil, this]
      omega
theorem dec_inj {a b : Nat} (h : Lib.decDigits a = Lib.decDigits b) : a = b := by rw [← decD_val a, h, decD_val]
theorem decB_inj {a b : Nat} (h : decB a = decB b) : a = b := by
  unfold decB at h
  injection h with h
  exact dec_inj (by simpa using h)
theorem dec_bytes (n : Nat) : ∀ b ∈ Lib.decDigits n, 48 ≤ b.toNat ∧ b.toNat ≤ 57 := by
  induction n using Nat.strongRecOn with
  | ind n ih =>
    rw [Lib.decDigits]
    by_cases h : n < 10
    · rw [dif_pos h]
      intro b hb
      rw [List.mem_singleton.1 hb, UInt8.toNat_ofNat']
      omega
    · rw [dif_neg h]
      intro b hb
      rcases List.mem_append.1 hb with hb | hb
      · exact ih (n / 10) (by omega) b hb
      · rw [List.mem_singleton.1 hb, UInt8.toNat_ofNat']
        omega

theorem num_dig {L : Lib} (hL : Plain L) (hf : L.fns 64 = some fn64) (n : Int) (h0 : 0 ≤ n) (h1 : n < 10) (h : Heap) : pcall L 64 [.int .i64 n] h = some (.val (.str (decB n.toNat)), h) := by
  rw [dec_digit (by omega)]
  have : n = 0 ∨ n = 1 ∨ n = 2 ∨ n = 3 ∨ n = 4 ∨ n = 5 ∨ n = 6 ∨ n = 7 ∨ n = 8 ∨ n = 9 := by omega
  rcases this with rfl | rfl | rfl | rfl | rfl | rfl | rfl | rfl | rfl | rfl
  · exact run64 hL hf (s := ⟨#[48]⟩) (by kernel_rfl) h
  · exact run64 hL hf (s := ⟨#[49]⟩) (by kernel_rfl) h
  · exact run64 hL hf (s := ⟨#[50]⟩) (by kernel_rfl) h
  · exact run64 hL hf (s := ⟨#[51]⟩) (by kernel_rfl) h
  · exact run64 hL hf (s := ⟨#[52]⟩) (by kernel_rfl) h
  · exact run64 hL hf (s := ⟨#[53]⟩) (by kernel_rfl) h
  · exact run64 hL hf (s := ⟨#[54]⟩) (by kernel_rfl) h
  · exact run64 hL hf (s := ⟨#[55]⟩) (by kernel_rfl) h
  · exact run64 hL hf (s := ⟨#[56]⟩) (by kernel_rfl) h
  · exact run64 hL hf (s := ⟨#[57]⟩) (by kernel_rfl) h
theorem num_dec {L : Lib} (hL : Plain L) (hf : L.fns 64 = some fn64) : ∀ (d : Nat), d < 19 → ∀ n : Int, 0 ≤ n → n < 10 ^ (d + 1) → (decB n.toNat).size ≤ d + 1 ∧ ∀ h : Heap, pcall L 64 [.int .i64 n] h = some (.val (.str (decB n.toNat)), h)
  | 0, _, n, h0, h1 => ⟨by rw [dec_digit (by omega)]; exact Nat.le_refl 1, num_dig hL hf n h0 (by simpa using h1)⟩
  | d + 1, hd, n, h0, h1 => by
    by_cases h10 : n < 10
    · refine ⟨?_, num_dig hL hf n h0 h10⟩
      rw [dec_digit (by omega)]
      show 1 ≤ _
      omega
    · have hp := hL.pure
      have hpow : (10 : Int) ^ (d + 1 + 1) = 10 ^ (d + 1) * 10 := by rw [Int.pow_succ]
      have e1 : n.tdiv 10 = n / 10 := Int.tdiv_eq_ediv_of_nonneg h0
      have e2 : n.tmod 10 = n % 10 := Int.tmod_eq_emod_of_nonneg h0
      have hw : IntKind.i64.wrap (n / 10) = n / 10 := by
        have h18 : (10 : Int) ^ (d + 1) ≤ 10 ^ 18 := by
          have : (10 : Nat) ^ (d + 1) ≤ 10 ^ 18 := Nat.pow_le_pow_right (by omega) (by omega)
          exact_mod_cast this
        rw [wrap64 (by omega) (by omega)]
      obtain ⟨a1, a2⟩ := num_dec hL hf d (by omega) (n / 10) (by omega) (by omega)
      have b2 := num_dig hL hf (n % 10) (by omega) (by omega)
      have t1 : (n / 10).toNat = n.toNat / 10 := by omega
      have t2 : (n % 10).toNat = n.toNat % 10 := by omega
      rw [t1] at a1 a2
      rw [t2] at b2
      have b1 : (decB (n.toNat % 10)).size = 1 := by rw [dec_digit (by omega)]; rfl
      rw [dec_more (n := n.toNat) (by omega)]
      have g3 : (decB (n.toNat / 10)).size + (decB (n.toNat % 10)).size ≤ 2 ^ 60 := by omega
      refine ⟨by rw [ByteArray.size_append]; omega, fun h => ?_⟩
      have g1 : ¬ n ≤ -10 := by omega
      have g2 : ¬ n < 0 := by omega
      refine pcall_fn hL hf rfl ?_ h
      unfold fn64
      simp -implicitDefEqProofs only [code_skip, code_ops, code_seq, code_cond, code_ret, ops_cons, ops_nil, aOp, opd, upd_at, initTm_at, stepVal, aBin, aStr, aInt, isShift, endFn, aResults, aResult, tupled, wipe_int, wipeR_str, isData_int, isDataL_nil, isDataL_cons, Option.getD_some, List.map_cons, List.map_nil, List.getElem?_cons_zero, ↓reduceIte, Bool.and_true, Bool.false_eq_true, decide_false, and_self, reduceCtorEq, Nat.reduceEqDiff, Int.reduceEq, Int.reduceNeg, onlyVal, outOf_val, g1, g2, h10, e1, e2, hw, a2, b2, g3, doCall_p L hp, hp]
theorem num_is {L : Lib} (hL : Plain L) (hf : L.fns 64 = some fn64) {N : Int → ByteArray} (hN : NumOk L N) {n : Int} (h0 : 0 ≤ n) (h1 : n < 9223372036854775808) : N n = decB n.toNat := by
  have h2 := (num_dec hL hf 18 (by omega) n h0 (by omega)).2 []
  rw [hN.call n ⟨by omega, h1⟩ []] at h2
  simpa using h2

/-! ### A type's text, byte by byte -/
def NL (n : Int) : List UInt8 := Lib.decDigits n.toNat
def headL (k : Int) (n : ByteArray) (v : Int) : List UInt8 := NL k ++ 60 :: ((if k = 0 then NL v else []) ++ if k = 1 ∨ k = 5 then NL n.size ++ 58 :: n.data.toList else [])
def textL : Ty → List UInt8
  | .mk k n v as => headL k n v ++ (as.attach.flatMap fun a => 59 :: textL a.1) ++ [62]
  termination_by t => SizeOf.sizeOf t
  decreasing_by
    have := Ty.mem_size a.2
    simp only [Ty.mk.sizeOf_spec]
    omega
theorem textL_eq (k : Int) (n : ByteArray) (v : Int) (as : List Ty) : textL (.mk k n v as) = headL k n v ++ (as.flatMap fun a => 59 :: textL a) ++ [62] := by
  rw [textL]
  simp

/-- No number below zero that is shown. -/
inductive TyP : Ty → Prop
  | mk {k : Int} {n : ByteArray} {v : Int} {as : List Ty} (hk : 0 ≤ k ∧ k < 9223372036854775808) (hv : k = 0 → 0 ≤ v ∧ v < 9223372036854775808) (hn : k = 1 ∨ k = 5 → n.size < 9223372036854775808) (ha : ∀ a ∈ as, TyP a) : TyP (.mk k n v as)
theorem fold_list (N : Int → ByteArray) : ∀ (as : List Ty) (x : ByteArray), (∀ a ∈ as, (textB N a).data.toList = textL a) → (as.foldl (fun o a => o ++ (⟨#[59]⟩ ++ textB N a)) x).data.toList = x.data.toList ++ as.flatMap fun a => 59 :: textL a
  | [], x, _ => by simp
  | a :: as, x, h => by
    rw [List.foldl_cons, fold_list N as _ fun b hb => h b (by simp [hb])]
    simp [ByteArray.data_append, h a (by simp)]
theorem text_list {L : Lib} (hL : Plain L) (hf : L.fns 64 = some fn64) {N : Int → ByteArray} (hN : NumOk L N) {t : Ty} (ht : TyP t) : (textB N t).data.toList = textL t := by
  induction t using Ty.ind with
  | h k n v as ih =>
    cases ht with
    | mk hk hv hn ha =>
    have e1 : (N k).data.toList = NL k := by rw [num_is hL hf hN hk.1 hk.2]; simp [decB, NL]
    have e2 : k = 0 → (N v).data.toList = NL v := fun h0 => by rw [num_is hL hf hN (hv h0).1 (hv h0).2]; simp [decB, NL]
    have e3 : k = 1 ∨ k = 5 → (N n.size).data.toList = NL n.size := fun h15 => by have := hn h15; rw [num_is hL hf hN (by omega) (by omega)]; simp [decB, NL]
    rw [textB_eq, textL_eq, ByteArray.data_append, Array.toList_append, fold_list N as _ fun a ha' => ih a ha' (ha a ha')]
    have : (headT N k n v).data.toList = headL k n v := by
      unfold headT headL
      by_cases k0 : k = 0
      · have h15 : ¬ (k = 1 ∨ k = 5) := by omega
        simp only [if_pos k0, if_neg h15, ByteArray.data_append, Array.toList_append, e1, e2 k0]
        simp
      · by_cases h15 : k = 1 ∨ k = 5
        · simp only [if_neg k0, if_pos h15, ByteArray.data_append, Array.toList_append, e1, e3 h15]
          simp
        · simp only [if_neg k0, if_neg h15, ByteArray.data_append, Array.toList_append, e1]
          simp
    rw [this]

/-- Digits, and what follows them. -/
theorem digits_split : ∀ (p p' : List UInt8) (c c' : UInt8) (r r' : List UInt8), (∀ b ∈ p, 48 ≤ b.toNat ∧ b.toNat ≤ 57) → (∀ b ∈ p', 48 ≤ b.toNat ∧ b.toNat ≤ 57) → (c.toNat < 48 ∨ 57 < c.toNat) → (c'.toNat < 48 ∨ 57 < c'.toNat) →
    p ++ c :: r = p' ++ c' :: r' → p = p' ∧ c = c' ∧ r = r'
  | [], [], c, c', r, r', _, _, _, _, h => by
    injection h with h1 h2
    exact ⟨rfl, h1, h2⟩
  | [], b :: p', c, c', r, r', _, h2, h3, _, h => by
    injection h with e1 e2
    have := h2 b (by simp)
    rw [e1] at h3
    omega
  | a :: p, [], c, c', r, r', h1, _, _, h4, h => by
    injection h with e1 e2
    have := h1 a (by simp)
    rw [← e1] at h4
    omega
  | a :: p, b :: p', c, c', r, r', h1, h2, h3, h4, h => by
    injection h with e1 e2
    obtain ⟨g1, g2, g3⟩ := digits_split p p' c c' r r' (fun x hx => h1 x (by simp [hx])) (fun x hx => h2 x (by simp [hx])) h3 h4 e2
    exact ⟨by rw [e1, g1], g2, g3⟩
theorem NL_digits (n : Int) : ∀ b ∈ NL n, 48 ≤ b.toNat ∧ b.toNat ≤ 57 := dec_bytes _
theorem NL_inj {a b : Int} (ha : 0 ≤ a) (hb : 0 ≤ b) (h : NL a = NL b) : a = b := by
  have := dec_inj h
  omega
/-- What begins with ';' or '>'. -/
def Sep (y : List UInt8) : Prop := ∃ c r, y = c :: r ∧ (c = 59 ∨ c = 62)
theorem sep_list (as : List Ty) (r : List UInt8) : Sep ((as.flatMap fun a => 59 :: textL a) ++ 62 :: r) := by
  cases as with
  | nil => exact ⟨62, r, rfl, .inr rfl⟩
  | cons a as => exact ⟨59, _, rfl, .inl rfl⟩
theorem sep_digit {c : UInt8} (h : c = 59 ∨ c = 62) : c.toNat < 48 ∨ 57 < c.toNat := by
  rcases h with rfl | rfl <;> decide
theorem head_split {k v k' v' : Int} {n n' : ByteArray} {y y' : List UInt8} (hk : 0 ≤ k) (hk' : 0 ≤ k') (hv : k = 0 → 0 ≤ v) (hv' : k' = 0 → 0 ≤ v') (hy : Sep y) (hy' : Sep y') (h : headL k n v ++ y = headL k' n' v' ++ y') :
    k = k' ∧ (k = 1 → n = n') ∧ y = y' := by
  unfold headL at h
  simp only [List.append_assoc, List.cons_append] at h
  obtain ⟨g1, _, g3⟩ := digits_split _ _ _ _ _ _ (NL_digits k) (NL_digits k') (by decide) (by decide) h
  obtain rfl := NL_inj hk hk' g1
  refine ⟨rfl, ?_⟩
  obtain ⟨c, r, rfl, hc⟩ := hy
  obtain ⟨c', r', rfl, hc'⟩ := hy'
  by_cases k0 : k = 0
  · have h15 : ¬ (k = 1 ∨ k = 5) := by omega
    simp only [if_pos k0, if_neg h15, List.append_nil, List.nil_append] at g3
    obtain ⟨_, g4, g5⟩ := digits_split _ _ _ _ _ _ (NL_digits v) (NL_digits v') (sep_digit hc) (sep_digit hc') g3
    exact ⟨fun h1 => by omega, by rw [g4, g5]⟩
  · by_cases h15 : k = 1 ∨ k = 5
    · simp only [if_neg k0, if_pos h15, List.nil_append, List.append_assoc, List.cons_append] at g3
      obtain ⟨g4, _, g5⟩ := digits_split _ _ _ _ _ _ (NL_digits _) (NL_digits _) (by decide) (by decide) g3
      have hs := NL_inj (by omega) (by omega) g4
      have hs' : n.data.toList.length = n'.data.toList.length := by
        have e1 : n.data.toList.length = n.size := Array.length_toList
        have e2 : n'.data.toList.length = n'.size := Array.length_toList
        omega
      obtain ⟨g6, g7⟩ := List.append_inj g5 hs'
      exact ⟨fun _ => ByteArray.ext (Array.toList_inj.mp g6), g7⟩
    · simp only [if_neg k0, if_neg h15, List.nil_append] at g3
      exact ⟨fun h1 => absurd (.inl h1) h15, g3⟩
theorem TyP.nat {k : Int} {n : ByteArray} {v : Int} {as : List Ty} (h : TyP (.mk k n v as)) : 0 ≤ k ∧ (k = 0 → 0 ≤ v) ∧ ∀ a ∈ as, TyP a := by
  cases h with
  | mk hk hv hn ha => exact ⟨hk.1, fun h0 => (hv h0).1, ha⟩
theorem text_pre {t : Ty} : ∀ {t' : Ty} {r r' : List UInt8}, TyP t → TyP t' → textL t ++ r = textL t' ++ r' → textL t = textL t' ∧ r = r' := by
  suffices hs : ∀ {t' : Ty} {r r' : List UInt8}, TyP t → TyP t' → textL t ++ r = textL t' ++ r' → r = r' by
    intro t' r r' h1 h2 h
    obtain rfl := hs h1 h2 h
    exact ⟨List.append_cancel_right h, rfl⟩
  induction t using Ty.ind with
  | h k n v as ih =>
    intro t' r r' h1 h2 h
    obtain ⟨k', n', v', as'⟩ := t'
    obtain ⟨hk, hv, ha⟩ := h1.nat
    obtain ⟨hk', hv', ha'⟩ := h2.nat
    rw [textL_eq, textL_eq] at h
    simp only [List.append_assoc, List.cons_append, List.nil_append] at h
    obtain ⟨_, _, hl⟩ := head_split hk hk' hv hv' (sep_list as r) (sep_list as' r') h
    clear h h1 h2
    induction as generalizing as' with
    | nil =>
      cases as' with
      | nil => injection hl
      | cons b as' =>
        injection hl with e1 e2
        cases e1
    | cons a as iha =>
      cases as' with
      | nil =>
        injection hl with e1 e2
        cases e1
      | cons b as' =>
        simp only [List.flatMap_cons, List.cons_append, List.append_assoc] at hl
        injection hl with e1 e2
        have e3 := ih a (by simp) (ha a (by simp)) (ha' b (by simp)) e2
        exact iha (fun x hx => ih x (by simp [hx])) as' (fun x hx => ha x (by simp [hx])) (fun x hx => ha' x (by simp [hx])) e3
theorem text_parts {k v k' v' : Int} {n n' : ByteArray} {as as' : List Ty} (h1 : TyP (.mk k n v as)) (h2 : TyP (.mk k' n' v' as')) (h : textL (.mk k n v as) = textL (.mk k' n' v' as')) :
    k = k' ∧ (k = 1 → n = n') ∧ All2 (fun a b => textL a = textL b) as as' := by
  obtain ⟨hk, hv, ha⟩ := h1.nat
  obtain ⟨hk', hv', ha'⟩ := h2.nat
  rw [textL_eq, textL_eq] at h
  simp only [List.append_assoc] at h
  obtain ⟨g1, g2, hl⟩ := head_split hk hk' hv hv' (sep_list as []) (sep_list as' []) h
  refine ⟨g1, g2, ?_⟩
  clear h h1 h2 g2
  induction as generalizing as' with
  | nil =>
    cases as' with
    | nil => exact .nil
    | cons b as' =>
      injection hl with e1 e2
      cases e1
  | cons a as iha =>
    cases as' with
    | nil =>
      injection hl with e1 e2
      cases e1
    | cons b as' =>
      simp only [List.flatMap_cons, List.cons_append, List.append_assoc] at hl
      injection hl with e1 e2
      obtain ⟨e3, e4⟩ := text_pre (ha a (by simp)) (ha' b (by simp)) e2
      exact .cons e3 (iha (fun x hx => ha x (by simp [hx])) (fun x hx => ha' x (by simp [hx])) e4)
end Go.Abs
