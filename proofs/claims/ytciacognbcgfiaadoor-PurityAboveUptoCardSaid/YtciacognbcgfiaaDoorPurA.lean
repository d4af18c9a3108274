/-
  PARTS OF A PROOF, joined: an abstract machine for quiet code, its evaluation, and what the seat's functions answer on it. Conditions: none.
-/
import Derived.Test.YtciacognbcgfiaaDoorCoreZ
import Derived.Test.YtciacognbcgfiaaDoorC
/-
  The effects of a node itself, on the machine. Conditions: none.
-/
set_option linter.unusedVariables false
set_option linter.unusedSimpArgs false
set_option maxRecDepth 100000
set_option maxHeartbeats 4000000
namespace Go.Abs
def tOp : CTree → Int | .mk op _ _ _ _ => op
def tN : CTree → Int | .mk _ n _ _ _ => n
def tBinds : CTree → List Int | .mk _ _ b _ _ => b
def tKids : CTree → List CTree | .mk _ _ _ k _ => k
def tAlts : CTree → List CAlt | .mk _ _ _ _ a => a
def wordly (t : CTree) : Bool := tOp t == 1 || (tOp t == 8 && (decide (tN t ≤ 4) || tN t == 9))
/-- An alternative of a case on a comparison: all outcomes are known, or one more is, or it is none. -/
def condE (_ : Nat) (k : Int) (a : CAlt) : Except Bool Int := if a.tag = -1 then .error true else if a.tag ≤ 1 then (if a.binds = [] then .ok (k + 1) else .error false) else .ok k
def condR (as : List CAlt) : Bool := match foldE condE as 0 0 with | .ok k => k == 2 | .error b => b
def kid0 (ks : List CTree) : CTree := ks.getD 0 .none
def kid1 (ks : List CTree) : CTree := ks.getD 1 .none
def wordsOf (ks : List CTree) : Bool := wordly (kid0 ks) && (decide (ks.length = 1) || wordly (kid1 ks))
def primEff (n : Int) (ks : List CTree) : Nat :=
  if n = 7 then 3 else if n = 8 ∨ n = 11 then 10 else if n = 10 then 18 else if n = 9 then 2
  else if n = 3 ∨ n = 4 then (if wordsOf ks = true ∧ tOp (kid1 ks) = 1 ∧ tN (kid1 ks) ≠ 0 then 0 else 2)
  else if wordsOf ks = true then 0 else 2
def condT (ks : List CTree) (as : List CAlt) : Bool := (tOp (kid0 ks) == 8 && (tN (kid0 ks) == 5 || tN (kid0 ks) == 6)) && condR as
def ownEff (op n : Int) (ks : List CTree) (as : List CAlt) : Nat :=
  if op = 17 then 2 else if op = 8 then primEff n ks
  else if op = 3 then (if tOp (kid0 ks) ≠ 2 ∨ (tBinds (kid0 ks)).length + 1 ≠ ks.length then 63 else 0)
  else if op = 7 then (if condT ks as = true then 0 else 2)
  else if op = 10 ∨ op = 11 then (if tOp (kid0 ks) ≠ 9 ∨ (op = 10 ∧ inI' (tBinds (kid0 ks)) n = false) then 2 else 0)
  else if op = 12 then 6 else if op = 13 then 63 else 0
/-- As many kids as are looked at. -/
def KidsOk (op n : Int) (ks : List CTree) : Prop :=
  ((op = 8 ∨ op = 3 ∨ op = 7 ∨ op = 10 ∨ op = 11) → 0 < ks.length) ∧ (op = 8 → ¬ (n = 7 ∨ n = 9) → 1 < ks.length)
section
variable {L : Lib} (hC : CLib2 L)
include hC
theorem wordly_ok (h243 : L.fns 243 = some fn243) (t : CTree) (h : Heap) : pcall L 243 [encTree t] h = some (.val (.bool (wordly t)), h) := by
  have hL := hC.plain
  refine pcall_fn hL h243 rfl ?_ h
  obtain ⟨op, n, binds, kids, alts⟩ := t
  unfold wordly tOp tN
  rw [encTree_eq]
  dsimp only
  cases h1 : op == 1 with
  | true => unfold fn243; simp -implicitDefEqProofs only [code_ops, code_seq, code_ret, ops_cons, ops_cons_g, ops_nil, aOp, opd, upd_at, initTm_at, stepVal, aBin, aInt, isShift, aWanted, aLoad1, aField, endFn, aResults, aResult, tupled, wipeR_bool, beqTF, Option.getD_some, List.getElem?_cons_zero, ↓reduceIte, Bool.true_or, Bool.false_eq_true, reduceCtorEq, Nat.add_zero, Nat.reduceEqDiff, outOf_val, h1]
  | false =>
    cases h2 : op == 8 with
    | false => unfold fn243; simp -implicitDefEqProofs only [code_ops, code_seq, code_ret, ops_cons, ops_cons_g, ops_nil, aOp, opd, upd_at, initTm_at, stepVal, aBin, aInt, isShift, aWanted, aLoad1, aField, endFn, aResults, aResult, tupled, wipeR_bool, beqFT, beq_self_eq_true, Option.getD_some, List.getElem?_cons_zero, ↓reduceIte, Bool.false_and, Bool.or_false, Bool.false_eq_true, reduceCtorEq, Nat.add_zero, Nat.reduceEqDiff, outOf_val, h1, h2]
    | true =>
      by_cases h3 : n ≤ 4
      · unfold fn243; simp -implicitDefEqProofs only [code_ops, code_seq, code_ret, ops_cons, ops_cons_g, ops_nil, aOp, opd, upd_at, initTm_at, stepVal, aBin, aInt, isShift, aWanted, aLoad1, aField, endFn, aResults, aResult, tupled, wipeR_bool, beqTF, beq_self_eq_true, Option.getD_some, List.getElem?_cons_zero, List.getElem?_cons_succ, ↓reduceIte, Bool.and_true, Bool.or_true, Bool.true_or, Bool.false_eq_true, decide_true, reduceCtorEq, Nat.add_zero, Nat.zero_add, Nat.reduceEqDiff, outOf_val, h1, h2, h3]
      · cases h4 : n == 9 <;> unfold fn243 <;> simp -implicitDefEqProofs only [code_ops, code_seq, code_ret, ops_cons, ops_cons_g, ops_nil, aOp, opd, upd_at, initTm_at, stepVal, aBin, aInt, isShift, aWanted, aLoad1, aField, endFn, aResults, aResult, tupled, wipeR_bool, beq_self_eq_true, Option.getD_some, List.getElem?_cons_zero, List.getElem?_cons_succ, ↓reduceIte, Bool.and_true, Bool.and_false, Bool.or_true, Bool.or_false, Bool.false_eq_true, decide_false, reduceCtorEq, Nat.add_zero, Nat.zero_add, Nat.reduceEqDiff, outOf_val, h1, h2, h3, h4]
theorem has_ok (h211 : L.fns 211 = some fn211) (l : List Int) (hl : l.length < 2 ^ 30) (n : Int) (h : Heap) : pcall L 211 [.list (l.map encI) none, .int .i64 n] h = some (.val (.bool (inI' l n)), h) := by
  have hL := hC.plain
  have hp := hL.pure
  have hloop : loopF L.pure (call L) 0 [1, 7, 8, 9] [4] 0 fn211_l0 ⟨kt [1, 7, 8, 9] [.int .i64 n, .list (l.map encI) none, .int .i64 l.length, .int .i64 ((0 : Nat) : Int)], []⟩ = some (if inI' l n = true then (.ret, ⟨kt [4] [.bool true], []⟩) else (.normal, ⟨kt [4] [.junk], []⟩)) := by
    refine loopF_any l (fun x => x == n) (fun i => ⟨kt [1, 7, 8, 9] [.int .i64 n, .list (l.map encI) none, .int .i64 l.length, .int .i64 i], []⟩) _ _ ?_ ?_ ?_
    · intro i hi hq
      obtain ⟨h1, h2, h3⟩ := round_c encI l hl i hi
      generalize l[i] = a at *
      unfold fn211_l0
      simp -implicitDefEqProofs only [code_skip, code_ops, code_seq, code_cond, code_block, ops_cons, ops_nil, aOp, opd, upd_at, kt_cons, stepVal, aBin, aInt, aIndexList, isShift, aLoad1, acells_int, gc_mk, isTrim_cons, gcIds_mk, newIds_nil, gcMap_at, posOf, ren, renC, renO_gone, idsV, idsC, isData_list_none, isData_int, Option.getD_none, List.map_cons, List.map_nil, List.flatMap_cons, List.flatMap_nil, List.length_cons, List.length_nil, List.append_nil, List.getElem?_nil, List.getElem?_cons_zero, List.take_nil, ↓reduceIte, Bool.false_eq_true, decide_true, decide_false, Nat.le_refl, Nat.zero_add, Nat.reduceEqDiff, Int.toNat_natCast, Int.natCast_nonneg, roundF_eq, kt_nil, encI_eq, data_Ints, h1, h2, h3, hq]
    · intro i hi hq
      obtain ⟨h1, h2, h3⟩ := round_c encI l hl i hi
      generalize l[i] = a at *
      unfold fn211_l0
      simp -implicitDefEqProofs only [code_skip, code_ops, code_seq, code_cond, code_block, code_ret, ops_cons, ops_nil, aOp, opd, upd_at, kt_cons, stepVal, aBin, aInt, aIndexList, isShift, aLoad1, acells_int, gcE, gc_mk, isTrim_cons, gcIds_mk, newIds_nil, gcMap_at, posOf, ren, renC, renO_gone, idsV, idsC, isData_bool, Option.getD_none, List.map_cons, List.map_nil, List.flatMap_cons, List.flatMap_nil, List.length_cons, List.length_nil, List.append_nil, List.getElem?_nil, List.getElem?_cons_zero, List.take_nil, ↓reduceIte, Bool.false_eq_true, decide_true, decide_false, Nat.le_refl, Nat.zero_add, Nat.reduceEqDiff, Int.toNat_natCast, Int.natCast_nonneg, roundF_eq, kt_nil, encI_eq, h1, h2, h3, hq]
    · have h0 := append_c l.length
      unfold fn211_l0
      simp -implicitDefEqProofs only [code_ops, code_seq, code_cond, code_exit, ops_cons, ops_nil, aOp, opd, upd_at, kt_cons, stepVal, aBin, aInt, isShift, gcE, gc_mk, isTrim_cons, gcIds_mk, newIds_nil, gcMap_at, posOf, ren, renC, renO_gone, idsV, idsC, isData_junk, Option.getD_none, List.map_cons, List.map_nil, List.flatMap_cons, List.flatMap_nil, List.length_nil, List.append_nil, List.getElem?_nil, List.take_nil, ↓reduceIte, Bool.false_eq_true, decide_false, Nat.le_refl, Nat.reduceEqDiff, roundF_eq, kt_nil, h0]
  simp only [Int.natCast_zero] at hloop
  refine pcall_fn hL h211 rfl ?_ h
  unfold fn211
  cases hq : inI' l n <;> simp only [hq] at hloop <;> simp -implicitDefEqProofs only [code_ops, code_seq, code_ret, ops_cons, ops_nil, aOp, opd, upd_at, initTm_at, kt_cons, stepVal, aLen, endFn, aResults, aResult, tupled, code_loopF, gc_mk, isTrim_cons, gcIds_mk, newIds_nil, gcMap_at, posOf, ren, renC, renO_gone, idsV, idsC, wipeR_bool, isData_list_none, isData_int, Option.getD_some, Option.getD_none, List.map_cons, List.map_nil, List.flatMap_cons, List.flatMap_nil, List.length_nil, List.length_map, List.append_nil, List.getElem?_nil, List.getElem?_cons_zero, List.getElem?_cons_succ, List.take_nil, ↓reduceIte, Bool.false_eq_true, decide_false, Nat.le_refl, reduceCtorEq, Nat.reduceEqDiff, outOf_val, data_Ints, hloop]
theorem cond_ok (h210 : L.fns 210 = some fn210) (op n : Int) (binds : List Int) (ks : List CTree) (as : List CAlt) (hk : 0 < ks.length) (ha : as.length < 2 ^ 30) (h : Heap) :
    pcall L 210 [encTree (.mk op n binds ks as)] h = some (.val (.bool (condT ks as)), h) := by
  have hL := hC.plain
  have hp := hL.pure
  refine pcall_fn hL h210 rfl ?_ h
  rw [encTree_eq]
  have hdA := data_Alts as
  have hloop := loopF_foldE (pure := L.pure) (call := call L) (b := 0) (keep := [4, 35, 36, 37]) (fk := [2, 4]) (id := 0) (body := fn210_l0) as condE
    (fun k i => ⟨kt [4, 35, 36, 37] [.int .i64 k, .list (as.map encAlt) none, .int .i64 as.length, .int .i64 (i : Int)], []⟩) (fun k => ⟨kt [2, 4] [.junk, .int .i64 k], []⟩)
    (fun b s => s = ⟨kt [2, 4] [.bool b, .junk], []⟩ ∨ ∃ k, s = ⟨kt [2, 4] [.bool b, .int .i64 k], []⟩) (fun k i => 0 ≤ k ∧ k ≤ i) 0 (by omega) ?_ ?_ ?_
  · obtain ⟨g1, g2⟩ := hloop
    unfold condT kid0
    obtain ⟨k, ks', rfl⟩ : ∃ k ks', ks = k :: ks' := by
      cases ks with
      | nil => simp at hk
      | cons k ks' => exact ⟨k, ks', rfl⟩
    obtain ⟨kop, kn, kb, kk, ka⟩ := k
    have hget : ((CTree.mk kop kn kb kk ka :: ks').getD 0 .none) = .mk kop kn kb kk ka := rfl
    rw [hget]
    unfold tOp tN
    dsimp only
    have hg : (encTree (CTree.mk kop kn kb kk ka) :: ks'.map encTree)[0]? = some (encTree (CTree.mk kop kn kb kk ka)) := rfl
    rw [encTree_eq] at hg
    cases e8 : kop == 8 with
    | false =>
      have e8' : (kop != 8) = true := by simpa [bne] using e8
      unfold fn210
      simp -implicitDefEqProofs only [code_ops, code_seq, code_cond, code_ret, ops_cons, ops_cons_g, ops_nil, aOp, opd, upd_at, initTm_at, stepVal, aBin, aInt, aIndexList, isShift, aWanted, aLoad1, aField, acells_vptr, endFn, aResults, aResult, tupled, wipeR_bool, beqTF, Option.getD_some, List.map_cons, List.length_cons, List.length_nil, List.getElem?_cons_zero, List.getElem?_cons_succ, ↓reduceIte, Bool.false_and, Bool.false_eq_true, reduceCtorEq, Nat.add_zero, Nat.zero_add, Nat.reduceEqDiff, Int.reduceToNat, outOf_val, encTree_eq, Int.le_refl, hg, e8, e8', hdA]
    | true =>
      have e8' : (kop != 8) = false := by simpa [bne] using e8
      by_cases hn : kn = 5 ∨ kn = 6
      · have hcn : (kn == 5 || kn == 6) = true := by simpa using hn
        rw [hcn]
        have e5 : ∀ b, (kn != 5) = b → (b = true → (kn != 6) = false) := by
          intro b hb hb2
          subst hb2
          rcases hn with h | h <;> subst h <;> first | rfl | (simp at hb)
        unfold condR
        simp only [Int.natCast_zero] at g1 g2
        cases hq : foldE condE as 0 0 with
        | ok kk2 =>
          obtain ⟨_, hl⟩ := g1 kk2 hq
          cases h5 : kn != 5 with
          | false => unfold fn210; simp -implicitDefEqProofs only [code_skip, code_ops, code_seq, code_cond, code_ret, ops_cons, ops_cons_g, ops_nil, aOp, opd, upd_at, initTm_at, kt_cons, stepVal, aBin, aLen, aInt, aIndexList, isShift, aWanted, aLoad1, aField, acells_vptr, endFn, aResults, aResult, tupled, code_loopF, gc_mk, isTrim_cons, gcIds_mk, newIds_nil, gcMap_at, posOf, ren, renC, renO_gone, idsV, idsC, wipeR_bool, isData_list_none, isData_int, beqFT, beq_self_eq_true, Option.getD_some, Option.getD_none, List.map_cons, List.map_nil, List.flatMap_cons, List.flatMap_nil, List.length_cons, List.length_nil, List.length_map, List.append_nil, List.getElem?_nil, List.getElem?_cons_zero, List.getElem?_cons_succ, List.take_nil, ↓reduceIte, Bool.and_true, Bool.true_and, Bool.false_eq_true, decide_false, Nat.le_refl, reduceCtorEq, Nat.add_zero, Nat.zero_add, Nat.reduceEqDiff, Int.reduceToNat, outOf_val, encTree_eq, Int.le_refl, hg, e8', h5, hl, hdA]
          | true => have h6 := e5 _ h5 rfl; unfold fn210; simp -implicitDefEqProofs only [code_skip, code_ops, code_seq, code_cond, code_ret, ops_cons, ops_cons_g, ops_nil, aOp, opd, upd_at, initTm_at, kt_cons, stepVal, aBin, aLen, aInt, aIndexList, isShift, aWanted, aLoad1, aField, acells_vptr, endFn, aResults, aResult, tupled, code_loopF, gc_mk, isTrim_cons, gcIds_mk, newIds_nil, gcMap_at, posOf, ren, renC, renO_gone, idsV, idsC, wipeR_bool, isData_list_none, isData_int, beq_self_eq_true, Option.getD_some, Option.getD_none, List.map_cons, List.map_nil, List.flatMap_cons, List.flatMap_nil, List.length_cons, List.length_nil, List.length_map, List.append_nil, List.getElem?_nil, List.getElem?_cons_zero, List.getElem?_cons_succ, List.take_nil, ↓reduceIte, Bool.and_true, Bool.true_and, Bool.false_eq_true, decide_false, Nat.le_refl, reduceCtorEq, Nat.add_zero, Nat.zero_add, Nat.reduceEqDiff, Int.reduceToNat, outOf_val, encTree_eq, Int.le_refl, hg, e8', h5, h6, hl, hdA]
        | error bb =>
          obtain ⟨R, hR, hl⟩ := g2 bb hq
          rcases hR with rfl | ⟨k, rfl⟩
          · cases h5 : kn != 5 with
            | false => unfold fn210; simp -implicitDefEqProofs only [code_skip, code_ops, code_seq, code_cond, ops_cons, ops_cons_g, ops_nil, aOp, opd, upd_at, initTm_at, kt_cons, stepVal, aBin, aLen, aInt, aIndexList, isShift, aWanted, aLoad1, aField, acells_vptr, endFn, aResults, aResult, tupled, code_loopF, gc_mk, isTrim_cons, gcIds_mk, newIds_nil, gcMap_at, posOf, ren, renC, renO_gone, idsV, idsC, wipeR_bool, isData_list_none, isData_int, beqFT, beq_self_eq_true, Option.getD_some, Option.getD_none, List.map_cons, List.map_nil, List.flatMap_cons, List.flatMap_nil, List.length_cons, List.length_nil, List.length_map, List.append_nil, List.getElem?_nil, List.getElem?_cons_zero, List.getElem?_cons_succ, List.take_nil, ↓reduceIte, Bool.and_true, Bool.true_and, Bool.false_eq_true, decide_false, Nat.le_refl, reduceCtorEq, Nat.add_zero, Nat.zero_add, Nat.reduceEqDiff, Int.reduceToNat, outOf_val, encTree_eq, Int.le_refl, hg, e8', h5, hl, hdA]
            | true => have h6 := e5 _ h5 rfl; unfold fn210; simp -implicitDefEqProofs only [code_skip, code_ops, code_seq, code_cond, ops_cons, ops_cons_g, ops_nil, aOp, opd, upd_at, initTm_at, kt_cons, stepVal, aBin, aLen, aInt, aIndexList, isShift, aWanted, aLoad1, aField, acells_vptr, endFn, aResults, aResult, tupled, code_loopF, gc_mk, isTrim_cons, gcIds_mk, newIds_nil, gcMap_at, posOf, ren, renC, renO_gone, idsV, idsC, wipeR_bool, isData_list_none, isData_int, beq_self_eq_true, Option.getD_some, Option.getD_none, List.map_cons, List.map_nil, List.flatMap_cons, List.flatMap_nil, List.length_cons, List.length_nil, List.length_map, List.append_nil, List.getElem?_nil, List.getElem?_cons_zero, List.getElem?_cons_succ, List.take_nil, ↓reduceIte, Bool.and_true, Bool.true_and, Bool.false_eq_true, decide_false, Nat.le_refl, reduceCtorEq, Nat.add_zero, Nat.zero_add, Nat.reduceEqDiff, Int.reduceToNat, outOf_val, encTree_eq, Int.le_refl, hg, e8', h5, h6, hl, hdA]
          · cases h5 : kn != 5 with
            | false => unfold fn210; simp -implicitDefEqProofs only [code_skip, code_ops, code_seq, code_cond, ops_cons, ops_cons_g, ops_nil, aOp, opd, upd_at, initTm_at, kt_cons, stepVal, aBin, aLen, aInt, aIndexList, isShift, aWanted, aLoad1, aField, acells_vptr, endFn, aResults, aResult, tupled, code_loopF, gc_mk, isTrim_cons, gcIds_mk, newIds_nil, gcMap_at, posOf, ren, renC, renO_gone, idsV, idsC, wipeR_bool, isData_list_none, isData_int, beqFT, beq_self_eq_true, Option.getD_some, Option.getD_none, List.map_cons, List.map_nil, List.flatMap_cons, List.flatMap_nil, List.length_cons, List.length_nil, List.length_map, List.append_nil, List.getElem?_nil, List.getElem?_cons_zero, List.getElem?_cons_succ, List.take_nil, ↓reduceIte, Bool.and_true, Bool.true_and, Bool.false_eq_true, decide_false, Nat.le_refl, reduceCtorEq, Nat.add_zero, Nat.zero_add, Nat.reduceEqDiff, Int.reduceToNat, outOf_val, encTree_eq, Int.le_refl, hg, e8', h5, hl, hdA]
            | true => have h6 := e5 _ h5 rfl; unfold fn210; simp -implicitDefEqProofs only [code_skip, code_ops, code_seq, code_cond, ops_cons, ops_cons_g, ops_nil, aOp, opd, upd_at, initTm_at, kt_cons, stepVal, aBin, aLen, aInt, aIndexList, isShift, aWanted, aLoad1, aField, acells_vptr, endFn, aResults, aResult, tupled, code_loopF, gc_mk, isTrim_cons, gcIds_mk, newIds_nil, gcMap_at, posOf, ren, renC, renO_gone, idsV, idsC, wipeR_bool, isData_list_none, isData_int, beq_self_eq_true, Option.getD_some, Option.getD_none, List.map_cons, List.map_nil, List.flatMap_cons, List.flatMap_nil, List.length_cons, List.length_nil, List.length_map, List.append_nil, List.getElem?_nil, List.getElem?_cons_zero, List.getElem?_cons_succ, List.take_nil, ↓reduceIte, Bool.and_true, Bool.true_and, Bool.false_eq_true, decide_false, Nat.le_refl, reduceCtorEq, Nat.add_zero, Nat.zero_add, Nat.reduceEqDiff, Int.reduceToNat, outOf_val, encTree_eq, Int.le_refl, hg, e8', h5, h6, hl, hdA]
      · have e5 : (kn != 5) = true := by simp; omega
        have e6 : (kn != 6) = true := by simp; omega
        have hcn : (kn == 5 || kn == 6) = false := by simp; omega
        rw [hcn]
        unfold fn210
        simp -implicitDefEqProofs only [code_ops, code_seq, code_cond, code_ret, ops_cons, ops_cons_g, ops_nil, aOp, opd, upd_at, initTm_at, stepVal, aBin, aInt, aIndexList, isShift, aWanted, aLoad1, aField, acells_vptr, endFn, aResults, aResult, tupled, wipeR_bool, beq_self_eq_true, Option.getD_some, List.map_cons, List.length_cons, List.length_nil, List.getElem?_cons_zero, List.getElem?_cons_succ, ↓reduceIte, Bool.and_false, Bool.false_and, Bool.false_eq_true, reduceCtorEq, Nat.add_zero, Nat.zero_add, Nat.reduceEqDiff, Int.reduceToNat, outOf_val, encTree_eq, Int.le_refl, hg, e8', e5, e6, hdA]
  · intro i hi k k' hk hq
    obtain ⟨h1, h2, h3⟩ := round_c encAlt as ha i hi
    have w : IntKind.i64.wrap (k + 1) = k + 1 := by rw [wrap64 (by omega) (by omega)]
    generalize as[i] = a at *
    unfold condE at hq
    split at hq
    · cases hq
    · rename_i t1
      have e1 : (a.tag == -1) = false := by simpa using t1
      split at hq
      · rename_i t2
        split at hq
        · rename_i t3
          injection hq with hq
          subst hq
          refine ⟨?_, by omega⟩
          unfold fn210_l0
          simp -implicitDefEqProofs only [code_skip, code_ops, code_seq, code_cond, code_block, ops_cons, ops_cons_g, ops_nil, aOp, opd, upd_at, upd_none, kt_cons, stepVal, stepHeap, aBin, aLen, aInt, aIndexList, isShift, aWanted, aLoad1, aStore, readAt, aField, leaf, acells_agg, cellsSet, gc_mk, isTrim_cons, gcIds_mk, newIds_nil, gcMap_at, posOf, ren, renC, idsV, idsC, isData_list_none, isData_int, beq_self_eq_true, Option.map_some, List.map_cons, List.map_nil, List.flatMap_cons, List.flatMap_nil, List.length_cons, List.length_nil, List.nil_append, List.append_nil, List.getElem?_cons_zero, List.getElem?_cons_succ, List.set_cons_zero, List.take_succ_cons, List.take_zero, List.drop_succ_cons, List.drop_zero, List.take_nil, List.drop_nil, List.all_cons, List.all_nil, ↓reduceIte, Bool.and_true, Bool.false_eq_true, decide_true, decide_false, and_self, Nat.le_refl, Nat.zero_le, Nat.add_zero, Nat.zero_add, Nat.reduceEqDiff, Nat.reduceAdd, Int.toNat_natCast, Int.natCast_nonneg, roundF_eq, Int.reduceNeg, kt_nil, Int.cast_ofNat_Int, encAlt_eq, data_Alts, h1, h2, h3, e1, t2, t3, w]
        · cases hq
      · rename_i t2
        injection hq with hq
        subst hq
        refine ⟨?_, by omega⟩
        unfold fn210_l0
        simp -implicitDefEqProofs only [code_skip, code_ops, code_seq, code_cond, code_block, ops_cons, ops_cons_g, ops_nil, aOp, opd, upd_at, upd_none, kt_cons, stepVal, stepHeap, aBin, aInt, aIndexList, isShift, aWanted, aLoad1, aStore, readAt, aField, leaf, acells_agg, cellsSet, gc_mk, isTrim_cons, gcIds_mk, newIds_nil, gcMap_at, posOf, ren, renC, idsV, idsC, isData_list_none, isData_int, beqFT, Option.map_some, List.map_cons, List.map_nil, List.flatMap_cons, List.flatMap_nil, List.length_cons, List.length_nil, List.nil_append, List.append_nil, List.getElem?_cons_zero, List.set_cons_zero, List.take_succ_cons, List.take_zero, List.drop_succ_cons, List.drop_zero, List.take_nil, List.drop_nil, List.all_cons, List.all_nil, ↓reduceIte, Bool.and_true, Bool.false_eq_true, decide_true, decide_false, and_self, Nat.le_refl, Nat.zero_le, Nat.add_zero, Nat.zero_add, Nat.reduceEqDiff, Nat.reduceAdd, Int.toNat_natCast, Int.natCast_nonneg, roundF_eq, Int.reduceNeg, kt_nil, encAlt_eq, data_Alts, h1, h2, h3, e1, t2]
  · intro i hi k b hk hq
    obtain ⟨h1, h2, h3⟩ := round_c encAlt as ha i hi
    generalize as[i] = a at *
    unfold condE at hq
    split at hq
    · rename_i t1
      injection hq with hq
      subst hq
      have e1 : (a.tag == -1) = true := by simpa using t1
      refine ⟨_, .inr ⟨k, rfl⟩, ?_⟩
      unfold fn210_l0
      simp -implicitDefEqProofs only [code_skip, code_ops, code_seq, code_cond, code_block, code_ret, ops_cons, ops_nil, aOp, opd, upd_at, upd_none, kt_cons, stepVal, stepHeap, aBin, aInt, aIndexList, isShift, aLoad1, aStore, readAt, aField, leaf, acells_agg, cellsSet, gcE, gc_mk, isTrim_cons, gcIds_mk, newIds_nil, gcMap_at, posOf, ren, renC, idsV, idsC, isData_bool, isData_int, Option.map_some, List.map_cons, List.map_nil, List.flatMap_cons, List.flatMap_nil, List.length_cons, List.length_nil, List.nil_append, List.append_nil, List.getElem?_cons_zero, List.set_cons_zero, List.take_succ_cons, List.take_zero, List.drop_succ_cons, List.drop_zero, List.take_nil, List.drop_nil, List.all_cons, List.all_nil, ↓reduceIte, Bool.and_true, Bool.false_eq_true, decide_true, decide_false, and_self, Nat.le_refl, Nat.zero_le, Nat.add_zero, Nat.zero_add, Nat.reduceEqDiff, Nat.reduceAdd, Int.toNat_natCast, Int.natCast_nonneg, roundF_eq, Int.reduceNeg, kt_nil, encAlt_eq, h1, h2, h3, e1]
    · rename_i t1
      have e1 : (a.tag == -1) = false := by simpa using t1
      split at hq
      · rename_i t2
        split at hq
        · cases hq
        · rename_i t3
          injection hq with hq
          subst hq
          have e3 : ((a.binds.length : Int) == 0) = false := by
            have := List.length_pos_iff.2 t3
            simp
            omega
          refine ⟨_, .inr ⟨k, rfl⟩, ?_⟩
          unfold fn210_l0
          simp -implicitDefEqProofs only [code_skip, code_ops, code_seq, code_cond, code_block, code_ret, ops_cons, ops_cons_g, ops_nil, aOp, opd, upd_at, upd_none, kt_cons, stepVal, stepHeap, aBin, aLen, aInt, aIndexList, isShift, aWanted, aLoad1, aStore, readAt, aField, leaf, acells_agg, cellsSet, gcE, gc_mk, isTrim_cons, gcIds_mk, newIds_nil, gcMap_at, posOf, ren, renC, idsV, idsC, isData_bool, isData_int, beq_self_eq_true, Option.map_some, List.map_cons, List.map_nil, List.flatMap_cons, List.flatMap_nil, List.length_cons, List.length_nil, List.length_map, List.nil_append, List.append_nil, List.getElem?_cons_zero, List.getElem?_cons_succ, List.set_cons_zero, List.take_succ_cons, List.take_zero, List.drop_succ_cons, List.drop_zero, List.take_nil, List.drop_nil, List.all_cons, List.all_nil, ↓reduceIte, Bool.and_true, Bool.false_eq_true, decide_true, decide_false, and_self, Nat.le_refl, Nat.zero_le, Nat.add_zero, Nat.zero_add, Nat.reduceEqDiff, Nat.reduceAdd, Int.toNat_natCast, Int.natCast_nonneg, roundF_eq, Int.reduceNeg, kt_nil, encAlt_eq, h1, h2, h3, e1, t2, e3]
      · cases hq
  · intro k hk
    have h0 := append_c as.length
    unfold fn210_l0
    simp -implicitDefEqProofs only [code_ops, code_seq, code_cond, code_exit, ops_cons, ops_nil, aOp, opd, upd_at, kt_cons, stepVal, aBin, aInt, isShift, gcE, gc_mk, isTrim_cons, gcIds_mk, newIds_nil, gcMap_at, posOf, ren, renC, renO_gone, idsV, idsC, isData_int, isData_junk, Option.getD_none, List.map_cons, List.map_nil, List.flatMap_cons, List.flatMap_nil, List.length_nil, List.append_nil, List.getElem?_nil, List.take_nil, ↓reduceIte, Bool.false_eq_true, decide_false, Nat.le_refl, Nat.reduceEqDiff, roundF_eq, Int.reduceNeg, kt_nil, h0]
end
end Go.Abs
/-
  The effects of a primitive, and of a node itself. Conditions: none.
-/
set_option linter.unusedVariables false
set_option linter.unusedSimpArgs false
set_option maxRecDepth 100000
set_option maxHeartbeats 4000000
namespace Go.Abs
theorem tree_cells (t : CTree) : encTree t = .vptr [.int .i64 (tOp t), .int .i64 (tN t), .list ((tBinds t).map encI) none, .list ((tKids t).map encTree) none, .list ((tAlts t).map encAlt) none] 0 := by
  obtain ⟨op, n, b, k, a⟩ := t
  rw [encTree_eq]
  rfl
theorem kid_at {ks : List CTree} {i : Nat} (h : i < ks.length) : (ks.map encTree)[i]? = some (encTree (ks.getD i .none)) := by
  simp [h]
section
variable {L : Lib} (hC : CLib2 L)
include hC
theorem prim_ok (h243 : L.fns 243 = some fn243) (h209 : L.fns 209 = some fn209) (n : Int) (binds : List Int) (ks : List CTree) (as : List CAlt) (hkl : ks.length < 2 ^ 30) (hk : KidsOk 8 n ks) (h : Heap) :
    pcall L 209 [encTree (.mk 8 n binds ks as)] h = some (.val (.int .i64 (primEff n ks)), h) := by
  have hL := hC.plain
  have hp := hL.pure
  have hk0 : 0 < ks.length := hk.1 (.inl rfl)
  have hw0 := wordly_ok hC h243 (kid0 ks)
  have hw1 := wordly_ok hC h243 (kid1 ks)
  have hg0 : (ks.map encTree)[0]? = some (encTree (kid0 ks)) := kid_at hk0
  have hdK := data_Trees ks
  have hdA := data_Alts as
  have hdB := data_Ints binds
  have hd0 : isData (encTree (kid0 ks)) = true := data_Tree _
  have hd1 : isData (encTree (kid1 ks)) = true := data_Tree _
  refine pcall_fn hL h209 rfl ?_ h
  rw [encTree_eq]
  have c1 := tree_cells (kid1 ks)
  have c0 := tree_cells (kid0 ks)
  -- the words
  have hlen1 : ((ks.length : Int) == 1) = decide (ks.length = 1) := by
    by_cases h : ks.length = 1
    · simp [h]
    · simp [h]; omega
  have main : ∀ (w0 w1 l1 : Bool), wordly (kid0 ks) = w0 → (l1 = false → ((ks.map encTree)[1]? = some (encTree (kid1 ks)) ∧ wordly (kid1 ks) = w1)) → decide (ks.length = 1) = l1 →
      outOf (endFn fn209.results (aCode L.pure (call L) fn209.body ⟨initTm [.vptr [.int .i64 8, .int .i64 n, .list (binds.map encI) none, .list (ks.map encTree) none, .list (as.map encAlt) none] 0], []⟩)) = some (.val (.int .i64 (primEff n ks))) := by
    intro w0 w1 l1 hw hw1' hl1
    have hwords : wordsOf ks = (w0 && (l1 || wordly (kid1 ks))) := by unfold wordsOf; rw [hw, hl1]
    rw [hw] at hw0
    rw [hl1] at hlen1
    have hnl : l1 = true → (n = 7 ∨ n = 9) := by
      intro h1
      subst h1
      refine Classical.byContradiction fun hn => ?_
      have := hk.2 rfl hn
      have : ks.length = 1 := by simpa using hl1
      omega
    unfold primEff
    rw [hwords]
    rw [c0] at hg0 hw0
    by_cases e7 : n = 7
    · subst e7
      cases w0 <;> cases l1
      all_goals first
        | (obtain ⟨hg1, hq1⟩ := hw1' rfl; rw [hq1] at hw1; rw [c1] at hg1 hw1; cases w1 <;> unfold fn209 <;> simp -implicitDefEqProofs only [code_ops, code_seq, code_cond, code_block, code_ret, ops_cons, ops_cons_g, ops_nil, aOp, opd, upd_at, initTm_at, stepVal, aBin, aLen, aInt, aIndexList, isShift, aWanted, aLoad1, aField, acells_vptr, endFn, aResults, aResult, tupled, wipeR_int, wipe_vptr, isData_list_none, isData_int, isData_vptr, isDataL_nil, isDataL_cons, beqFT, beq_self_eq_true, Option.getD_some, List.map_cons, List.map_nil, List.length_cons, List.length_nil, List.length_map, List.getElem?_cons_zero, List.getElem?_cons_succ, ↓reduceIte, Bool.and_true, Bool.false_eq_true, and_self, reduceCtorEq, Nat.zero_add, Nat.reduceEqDiff, Int.reduceToNat, Int.reduceLE, Int.cast_ofNat_Int, onlyVal, outOf_val, data_Ints, data_Alts, data_Trees, Int.le_refl, hg0, hw0, hg1, hw1, hlen1, hdK, hdA, hdB, data_Trees, doCall_p L hp, hp])
        | (unfold fn209; simp -implicitDefEqProofs only [code_ops, code_seq, code_cond, code_block, code_ret, ops_cons, ops_cons_g, ops_nil, aOp, opd, upd_at, initTm_at, stepVal, aBin, aLen, aInt, aIndexList, isShift, aWanted, aLoad1, aField, acells_vptr, endFn, aResults, aResult, tupled, wipeR_int, wipe_vptr, isData_list_none, isData_int, isData_vptr, isDataL_nil, isDataL_cons, beqTF, beqFT, beq_self_eq_true, Option.getD_some, List.map_cons, List.map_nil, List.length_cons, List.length_nil, List.length_map, List.getElem?_cons_zero, List.getElem?_cons_succ, ↓reduceIte, Bool.and_true, Bool.false_eq_true, and_self, reduceCtorEq, Nat.zero_add, Nat.reduceEqDiff, Int.reduceToNat, Int.cast_ofNat_Int, onlyVal, outOf_val, data_Ints, data_Alts, data_Trees, Int.le_refl, hg0, hw0, hlen1, hdK, hdA, hdB, doCall_p L hp, hp])
    by_cases e9 : n = 9
    · subst e9
      cases w0 <;> cases l1
      all_goals first
        | (obtain ⟨hg1, hq1⟩ := hw1' rfl; rw [hq1] at hw1; rw [c1] at hg1 hw1; cases w1 <;> unfold fn209 <;> simp -implicitDefEqProofs only [code_ops, code_seq, code_cond, code_block, code_ret, ops_cons, ops_cons_g, ops_nil, aOp, opd, upd_at, initTm_at, stepVal, aBin, aLen, aInt, aIndexList, isShift, aWanted, aLoad1, aField, acells_vptr, endFn, aResults, aResult, tupled, wipeR_int, wipe_vptr, isData_list_none, isData_int, isData_vptr, isDataL_nil, isDataL_cons, beqFT, beq_self_eq_true, Option.getD_some, List.map_cons, List.map_nil, List.length_cons, List.length_nil, List.length_map, List.getElem?_cons_zero, List.getElem?_cons_succ, ↓reduceIte, Bool.and_true, Bool.false_eq_true, or_false, and_self, reduceCtorEq, Nat.zero_add, Nat.reduceEqDiff, Int.reduceToNat, Int.reduceLE, Int.reduceEq, Int.reduceBEq, Int.cast_ofNat_Int, onlyVal, outOf_val, data_Ints, data_Alts, data_Trees, Int.le_refl, hg0, hw0, hg1, hw1, hlen1, hdK, hdA, hdB, doCall_p L hp, hp, Int.reduceEq])
        | (unfold fn209; simp -implicitDefEqProofs only [code_ops, code_seq, code_cond, code_block, code_ret, ops_cons, ops_cons_g, ops_nil, aOp, opd, upd_at, initTm_at, stepVal, aBin, aLen, aInt, aIndexList, isShift, aWanted, aLoad1, aField, acells_vptr, endFn, aResults, aResult, tupled, wipeR_int, wipe_vptr, isData_list_none, isData_int, isData_vptr, isDataL_nil, isDataL_cons, beqTF, beqFT, beq_self_eq_true, Option.getD_some, List.map_cons, List.map_nil, List.length_cons, List.length_nil, List.length_map, List.getElem?_cons_zero, List.getElem?_cons_succ, ↓reduceIte, Bool.and_true, Bool.false_eq_true, or_false, and_self, reduceCtorEq, Nat.zero_add, Nat.reduceEqDiff, Int.reduceToNat, Int.reduceEq, Int.reduceBEq, Int.cast_ofNat_Int, onlyVal, outOf_val, data_Ints, data_Alts, data_Trees, Int.le_refl, hg0, hw0, hlen1, hdK, hdA, hdB, doCall_p L hp, hp, Int.reduceEq])
    have hl1f : l1 = false := by
      cases l1 with
      | false => rfl
      | true => rcases hnl rfl with h | h <;> contradiction
    subst hl1f
    obtain ⟨hg1, hq1⟩ := hw1' rfl
    rw [hq1] at hw1
    rw [hq1, Bool.false_or]
    have hg1' := hg1
    rw [c1] at hg1 hw1
    have b7 : (n == 7) = false := by simpa using e7
    have b9 : (n == 9) = false := by simpa using e9
    rw [if_neg e7]
    by_cases e8 : n = 8 ∨ n = 11
    · rw [if_pos e8]
      rcases e8 with rfl | rfl <;> cases w0 <;> cases w1 <;> unfold fn209 <;> simp -implicitDefEqProofs only [code_skip, code_ops, code_seq, code_cond, code_block, code_ret, ops_cons, ops_cons_g, ops_nil, aOp, opd, upd_at, initTm_at, stepVal, aBin, aLen, aInt, aIndexList, isShift, aWanted, aLoad1, aField, acells_vptr, endFn, aResults, aResult, tupled, wipeR_int, wipe_vptr, isData_list_none, isData_int, isData_vptr, isDataL_nil, isDataL_cons, beqFT, beq_self_eq_true, Option.getD_some, List.map_cons, List.map_nil, List.length_cons, List.length_nil, List.length_map, List.getElem?_cons_zero, List.getElem?_cons_succ, ↓reduceIte, Bool.and_true, Bool.false_eq_true, and_self, reduceCtorEq, Nat.zero_add, Nat.reduceEqDiff, Int.reduceToNat, Int.reduceLE, Int.reduceBEq, Int.cast_ofNat_Int, onlyVal, outOf_val, data_Ints, data_Alts, data_Trees, Int.le_refl, hg0, hw0, hg1, hw1, hlen1, hdK, hdA, hdB, doCall_p L hp, hp]
    have b8 : (n == 8) = false := by simp; omega
    have b11 : (n == 11) = false := by simp; omega
    rw [if_neg e8]
    by_cases e10 : n = 10
    · subst e10
      cases w0 <;> cases w1 <;> unfold fn209 <;> simp -implicitDefEqProofs only [code_ops, code_seq, code_cond, code_block, code_ret, ops_cons, ops_cons_g, ops_nil, aOp, opd, upd_at, initTm_at, stepVal, aBin, aLen, aInt, aIndexList, isShift, aWanted, aLoad1, aField, acells_vptr, endFn, aResults, aResult, tupled, wipeR_int, wipe_vptr, isData_list_none, isData_int, isData_vptr, isDataL_nil, isDataL_cons, beqFT, beq_self_eq_true, Option.getD_some, List.map_cons, List.map_nil, List.length_cons, List.length_nil, List.length_map, List.getElem?_cons_zero, List.getElem?_cons_succ, ↓reduceIte, Bool.and_true, Bool.false_eq_true, and_self, reduceCtorEq, Nat.zero_add, Nat.reduceEqDiff, Int.reduceToNat, Int.reduceLE, Int.reduceBEq, Int.cast_ofNat_Int, onlyVal, outOf_val, data_Ints, data_Alts, data_Trees, Int.le_refl, hg0, hw0, hg1, hw1, hlen1, hdK, hdA, hdB, doCall_p L hp, hp]
    have b10 : (n == 10) = false := by simpa using e10
    rw [if_neg e10, if_neg e9]
    by_cases e3 : n = 3 ∨ n = 4
    · rw [if_pos e3]
      by_cases k1 : tOp (kid1 ks) = 1
      · by_cases k2 : tN (kid1 ks) = 0
        · have d1 : (tOp (kid1 ks) == 1) = true := by simpa using k1
          have d2 : (tN (kid1 ks) != 0) = false := by simpa using k2
          rw [if_neg (fun hx => hx.2.2 k2)]
          rcases e3 with rfl | rfl <;> cases w0 <;> cases w1 <;> unfold fn209 <;> simp -implicitDefEqProofs only [code_skip, code_ops, code_seq, code_cond, code_block, code_ret, ops_cons, ops_cons_g, ops_nil, aOp, opd, upd_at, initTm_at, stepVal, aBin, aLen, aInt, aIndexList, isShift, aWanted, aLoad1, aField, acells_vptr, endFn, aResults, aResult, tupled, wipeR_int, wipe_vptr, isData_list_none, isData_int, isData_vptr, isDataL_nil, isDataL_cons, beqFT, beq_self_eq_true, Option.getD_some, List.map_cons, List.map_nil, List.length_cons, List.length_nil, List.length_map, List.getElem?_cons_zero, List.getElem?_cons_succ, ↓reduceIte, Bool.and_true, Bool.false_eq_true, and_self, reduceCtorEq, Nat.add_zero, Nat.zero_add, Nat.reduceEqDiff, Int.reduceToNat, Int.reduceLE, Int.reduceBEq, Int.cast_ofNat_Int, onlyVal, outOf_val, data_Ints, data_Alts, data_Trees, Int.le_refl, hg0, hw0, hg1, hw1, hlen1, hdK, hdA, hdB, d1, d2, doCall_p L hp, hp]
        · have d1 : (tOp (kid1 ks) == 1) = true := by simpa using k1
          have d2 : (tN (kid1 ks) != 0) = true := by simpa using k2
          rcases e3 with rfl | rfl <;> cases w0 <;> cases w1 <;> simp only [Bool.and_self, Bool.false_and, Bool.and_false, k1, k2, ne_eq, not_false_eq_true, and_self, and_true, Bool.false_eq_true, false_and, if_true, if_false] <;> unfold fn209 <;> simp -implicitDefEqProofs only [code_skip, code_ops, code_seq, code_cond, code_block, code_ret, ops_cons, ops_cons_g, ops_nil, aOp, opd, upd_at, initTm_at, stepVal, aBin, aLen, aInt, aIndexList, isShift, aWanted, aLoad1, aField, acells_vptr, endFn, aResults, aResult, tupled, wipeR_int, wipe_vptr, isData_list_none, isData_int, isData_vptr, isDataL_nil, isDataL_cons, beqFT, beq_self_eq_true, Option.getD_some, List.map_cons, List.map_nil, List.length_cons, List.length_nil, List.length_map, List.getElem?_cons_zero, List.getElem?_cons_succ, ↓reduceIte, Bool.and_true, Bool.false_eq_true, and_self, reduceCtorEq, Nat.add_zero, Nat.zero_add, Nat.reduceEqDiff, Int.reduceToNat, Int.reduceLE, Int.reduceBEq, Int.cast_ofNat_Int, onlyVal, outOf_val, data_Ints, data_Alts, data_Trees, Int.le_refl, hg0, hw0, hg1, hw1, hlen1, hdK, hdA, hdB, d1, d2, doCall_p L hp, hp]
      · have d1 : (tOp (kid1 ks) == 1) = false := by simpa using k1
        rw [if_neg (fun hx => k1 hx.2.1)]
        rcases e3 with rfl | rfl <;> cases w0 <;> cases w1 <;> unfold fn209 <;> simp -implicitDefEqProofs only [code_skip, code_ops, code_seq, code_cond, code_block, code_ret, ops_cons, ops_cons_g, ops_nil, aOp, opd, upd_at, initTm_at, stepVal, aBin, aLen, aInt, aIndexList, isShift, aWanted, aLoad1, aField, acells_vptr, endFn, aResults, aResult, tupled, wipeR_int, wipe_vptr, isData_list_none, isData_int, isData_vptr, isDataL_nil, isDataL_cons, beqFT, beq_self_eq_true, Option.getD_some, List.map_cons, List.map_nil, List.length_cons, List.length_nil, List.length_map, List.getElem?_cons_zero, List.getElem?_cons_succ, ↓reduceIte, Bool.and_true, Bool.false_eq_true, and_self, reduceCtorEq, Nat.add_zero, Nat.zero_add, Nat.reduceEqDiff, Int.reduceToNat, Int.reduceLE, Int.reduceBEq, Int.cast_ofNat_Int, onlyVal, outOf_val, data_Ints, data_Alts, data_Trees, Int.le_refl, hg0, hw0, hg1, hw1, hlen1, hdK, hdA, hdB, d1, doCall_p L hp, hp]
    have b3 : (n == 3) = false := by simp; omega
    have b4 : (n == 4) = false := by simp; omega
    rw [if_neg e3]
    cases w0 <;> cases w1 <;> unfold fn209 <;> simp -implicitDefEqProofs only [code_skip, code_ops, code_seq, code_cond, code_block, code_ret, ops_cons, ops_cons_g, ops_nil, aOp, opd, upd_at, initTm_at, stepVal, aBin, aLen, aInt, aIndexList, isShift, aWanted, aLoad1, aField, acells_vptr, endFn, aResults, aResult, tupled, wipeR_int, wipe_vptr, isData_list_none, isData_int, isData_vptr, isDataL_nil, isDataL_cons, beqFT, beq_self_eq_true, Option.getD_some, List.map_cons, List.map_nil, List.length_cons, List.length_nil, List.length_map, List.getElem?_cons_zero, List.getElem?_cons_succ, ↓reduceIte, Bool.and_true, Bool.and_false, Bool.false_eq_true, and_self, reduceCtorEq, Nat.zero_add, Nat.reduceEqDiff, Int.reduceToNat, Int.reduceLE, Int.cast_ofNat_Int, onlyVal, outOf_val, data_Ints, data_Alts, data_Trees, Int.le_refl, hg0, hw0, hg1, hw1, hlen1, hdK, hdA, hdB, b3, b4, b7, b8, b9, b10, b11, doCall_p L hp, hp]
  refine main _ (wordly (kid1 ks)) _ rfl (fun hl => ⟨kid_at ?_, rfl⟩) rfl
  have : ¬ ks.length = 1 := by simpa using hl
  omega
end
end Go.Abs
