/-
  Equality of lists of numbers, and of trees up to names: the walk. Conditions: none.
-/
import Derived.Test.YtciacognbcgfiaaDoorCoreS
set_option linter.unusedVariables false
set_option linter.unusedSimpArgs false
set_option maxRecDepth 100000
set_option maxHeartbeats 4000000
namespace Go.Abs
def intsNe (b : List Int) (i : Nat) (x : Int) : Bool := !(x == b.getD i 0)
theorem ints_eq {a b : List Int} (h : a.length = b.length) : (findFrom (fun i x => if intsNe b i x = true then some () else none) a 0).isSome = !decide (a = b) := by
  rw [Bool.eq_iff_iff, find_idx (intsNe b) a 0]
  simp only [Bool.not_eq_true', decide_eq_false_iff_not]
  constructor
  · rintro ⟨i, hi, hn⟩ e
    subst e
    unfold intsNe at hn
    rw [Nat.zero_add, List.getD_eq_getElem?_getD, List.getElem?_eq_getElem hi] at hn
    simp at hn
  · intro hne
    refine Classical.byContradiction fun hx => hne ?_
    refine List.ext_getElem h fun i h1 h2 => ?_
    refine Classical.byContradiction fun hd => hx ⟨i, h1, ?_⟩
    unfold intsNe
    rw [Nat.zero_add, List.getD_eq_getElem?_getD, List.getElem?_eq_getElem h2]
    simpa using hd
section
variable {L : Lib} (hL : Plain L)
include hL
theorem eqInts139 (hf : L.fns 139 = some fn139) (a b : List Int) (ha : a.length < 2 ^ 30) (h : Heap) : pcall L 139 [.list (a.map encI) none, .list (b.map encI) none] h = some (.val (.bool (decide (a = b))), h) := by
  refine pcall_fn hL hf rfl ?_ h
  by_cases hl : a.length = b.length
  · have hs := ints_eq hl
    have hround : ∀ (i : Nat) (hi : i < a.length), roundF L.pure (call L) 0 [0, 1, 12, 13] [4] fn139_l0 ⟨kt [0, 1, 12, 13] [.list (a.map encI) none, .list (b.map encI) none, .int .i64 a.length, .int .i64 i], []⟩ =
        some (if intsNe b i a[i] = true then (.ret, ⟨kt [4] [.bool false], []⟩) else (.normal, ⟨kt [0, 1, 12, 13] [.list (a.map encI) none, .list (b.map encI) none, .int .i64 a.length, .int .i64 ((i + 1 : Nat) : Int)], []⟩)) := by
      intro i hi
      obtain ⟨h1, h2, h3⟩ := round_c encI a ha i hi
      have h4 : (b.map encI)[i]? = some (encI (b.getD i 0)) := by
        have : i < b.length := by omega
        simp [this]
      unfold intsNe
      generalize a[i] = x at *
      generalize b.getD i 0 = y at *
      cases hq : (x == y) <;> unfold fn139_l0 <;> simp -implicitDefEqProofs only [code_skip, code_ops, code_draw, code_seq, code_cond, code_block, code_ret, ops_cons, ops_nil, aOp, opd, upd_at, kt_cons, stepVal, aBin, aInt, aIndexList, isShift, aWanted, aLoad1, acells_int, gcE, gc_mk, isTrim_cons, gcIds_mk, newIds_nil, gcMap_at, posOf, ren, renC, renO_gone, idsV, idsC, draw_eq, opsH_nil, opsH_cons, isLoud, isData_list_none, isData_bool, isData_int, Option.getD_none, List.map_cons, List.map_nil, List.flatMap_cons, List.flatMap_nil, List.length_cons, List.length_nil, List.nil_append, List.append_nil, List.getElem?_nil, List.getElem?_cons_zero, List.take_nil, ↓reduceIte, Bool.not_true, Bool.not_false, Bool.false_eq_true, decide_true, decide_false, Nat.le_refl, reduceCtorEq, Nat.zero_add, Nat.reduceEqDiff, Int.toNat_natCast, Int.natCast_nonneg, roundF_eq, checksP_nil, drawTo_if, kt_nil, encI_eq, data_Ints, h1, h2, h3, h4, hq, bne]
    have hloop := loopF_find (pure := L.pure) (call := call L) (b := 0) (keep := [0, 1, 12, 13]) (fk := [4]) (id := 0) (body := fn139_l0) a (fun i x => if intsNe b i x = true then some () else none)
      (fun i => ⟨kt [0, 1, 12, 13] [.list (a.map encI) none, .list (b.map encI) none, .int .i64 a.length, .int .i64 i], []⟩) ⟨kt [4] [.junk], []⟩ (fun _ => ⟨kt [4] [.bool false], []⟩)
      (by
        intro i hi hq
        rw [hround i hi, if_neg]
        intro hx
        simp [hx] at hq)
      (by
        intro i hi r hq
        cases hx : intsNe b i a[i] with
        | false => simp [hx] at hq
        | true => rw [hround i hi, if_pos hx])
      (by
        have h0 := append_c a.length
        unfold fn139_l0
        simp -implicitDefEqProofs only [code_ops, code_seq, code_cond, code_exit, ops_cons, ops_nil, aOp, opd, upd_at, kt_cons, stepVal, aBin, aInt, isShift, gcE, gc_mk, isTrim_cons, gcIds_mk, newIds_nil, gcMap_at, posOf, ren, renC, renO_gone, idsV, idsC, isData_junk, Option.getD_none, List.map_cons, List.map_nil, List.flatMap_cons, List.flatMap_nil, List.length_nil, List.append_nil, List.getElem?_nil, List.take_nil, ↓reduceIte, Bool.false_eq_true, decide_false, Nat.le_refl, reduceCtorEq, Nat.reduceEqDiff, roundF_eq, kt_nil, h0])
    simp only [Int.natCast_zero] at hloop
    have hne : ((a.length : Int) == (b.length : Int)) = true := by rw [hl]; simp
    cases hq : findFrom (fun i x => if intsNe b i x = true then some () else none) a 0 with
    | none =>
      rw [hq] at hs hloop
      have hd : decide (a = b) = true := by simpa using hs.symm
      rw [hd]
      simp only [fromFind] at hloop
      unfold fn139
      simp -implicitDefEqProofs only [code_skip, code_ops, code_seq, code_cond, code_ret, ops_cons, ops_nil, aOp, opd, upd_at, initTm_at, stepVal, aBin, aLen, aInt, isShift, endFn, aResults, aResult, tupled, code_loopF, gc_mk, isTrim_cons, gcIds_mk, newIds_nil, gcMap_at, posOf, ren, renC, renO_gone, idsV, idsC, wipeR_bool, isData_list_none, isData_int, Option.getD_some, Option.getD_none, List.map_cons, List.map_nil, List.flatMap_cons, List.flatMap_nil, List.length_nil, List.length_map, List.append_nil, List.getElem?_nil, List.getElem?_cons_zero, List.getElem?_cons_succ, List.take_nil, ↓reduceIte, Bool.not_true, Bool.false_eq_true, decide_false, Nat.le_refl, reduceCtorEq, Nat.reduceEqDiff, outOf_val, data_Ints, hne, hloop, bne]
    | some u =>
      rw [hq] at hs hloop
      have hd : decide (a = b) = false := by simpa using hs.symm
      rw [hd]
      simp only [fromFind] at hloop
      unfold fn139
      simp -implicitDefEqProofs only [code_skip, code_ops, code_seq, code_cond, ops_cons, ops_nil, aOp, opd, upd_at, initTm_at, kt_cons, stepVal, aBin, aLen, aInt, isShift, endFn, aResults, aResult, tupled, code_loopF, gc_mk, isTrim_cons, gcIds_mk, newIds_nil, gcMap_at, posOf, ren, renC, renO_gone, idsV, idsC, wipeR_bool, isData_list_none, isData_int, Option.getD_some, Option.getD_none, List.map_cons, List.map_nil, List.flatMap_cons, List.flatMap_nil, List.length_nil, List.length_map, List.append_nil, List.getElem?_nil, List.getElem?_cons_zero, List.getElem?_cons_succ, List.take_nil, ↓reduceIte, Bool.not_true, Bool.false_eq_true, decide_false, Nat.le_refl, reduceCtorEq, Nat.reduceEqDiff, outOf_val, data_Ints, hne, hloop, bne]
  · have hne : ((a.length : Int) == (b.length : Int)) = false := by simp; omega
    have hd : decide (a = b) = false := by simpa using fun e => hl (by rw [e])
    rw [hd]
    unfold fn139
    simp -implicitDefEqProofs only [code_ops, code_seq, code_cond, code_ret, ops_cons, ops_nil, aOp, opd, upd_at, initTm_at, stepVal, aBin, aLen, aInt, isShift, endFn, aResults, aResult, tupled, wipeR_bool, Option.getD_some, List.length_map, List.getElem?_cons_zero, List.getElem?_cons_succ, ↓reduceIte, Bool.not_false, Bool.false_eq_true, reduceCtorEq, Nat.reduceEqDiff, outOf_val, hne, bne]
end
section
def putZip (l l' : List Int) (m : IM Int) : IM Int := (l.zip l').foldl (fun m p => putK p.1 p.2 m) m
variable {L : Lib}
variable (hL : Plain L)
include hL
end
end Go.Abs
