/-
  The free identifiers of a tree, sorted. Conditions: none.
-/
import Derived.Test.YtciacognbcgfiaaDoorCoreL
set_option linter.unusedVariables false
set_option linter.unusedSimpArgs false
set_option maxRecDepth 100000
set_option maxHeartbeats 4000000
namespace Go.Abs
def insI (n : Int) : List Int → List Int
  | [] => [n]
  | m :: l => if n ≤ m then n :: m :: l else m :: insI n l
def sortInts (l : List Int) : List Int := l.foldr insI []
theorem insI_perm (n : Int) : ∀ l, (insI n l).Perm (n :: l)
  | [] => .refl _
  | m :: l => by
    unfold insI
    split
    · exact .refl _
    · exact ((insI_perm n l).cons m).trans (.swap n m l)
theorem insI_sorted (n : Int) : ∀ {l : List Int}, l.Pairwise (· ≤ ·) → (insI n l).Pairwise (· ≤ ·)
  | [], _ => by simp [insI]
  | m :: l, h => by
    rw [List.pairwise_cons] at h
    unfold insI
    split
    · rename_i hnm
      rw [List.pairwise_cons]
      refine ⟨fun x hx => ?_, List.pairwise_cons.2 h⟩
      rcases List.mem_cons.1 hx with rfl | hx
      · exact hnm
      · have := h.1 x hx; omega
    · rw [List.pairwise_cons]
      refine ⟨fun x hx => ?_, insI_sorted n h.2⟩
      rcases List.mem_cons.1 ((insI_perm n l).mem_iff.1 hx) with rfl | hx
      · omega
      · exact h.1 x hx
theorem sortInts_perm : ∀ l, (sortInts l).Perm l
  | [] => .refl _
  | n :: l => (insI_perm n (sortInts l)).trans ((sortInts_perm l).cons n)
theorem sortInts_sorted : ∀ l, (sortInts l).Pairwise (· ≤ ·)
  | [] => .nil
  | n :: l => insI_sorted n (sortInts_sorted l)
theorem sorted_eq {a b : List Int} (ha : a.Pairwise (· ≤ ·)) (hb : b.Pairwise (· ≤ ·)) (h : a.Perm b) : a = b :=
  List.Perm.eq_of_pairwise (le := fun x y : Int => x ≤ y) (fun x y _ _ h1 h2 => by omega) ha hb h
theorem sortInts_congr {a b : List Int} (h : a.Perm b) : sortInts a = sortInts b :=
  sorted_eq (sortInts_sorted a) (sortInts_sorted b) ((sortInts_perm a).trans (h.trans (sortInts_perm b).symm))
theorem sortInts_len (l : List Int) : (sortInts l).length = l.length := (sortInts_perm l).length_eq
theorem permC_inv {α β : Type} (f : α → β) : ∀ {es : List β} {l : List α}, es.Perm (l.map f) → ∃ l' : List α, l'.Perm l ∧ es = l'.map f
  | [], l, h => by
    have := h.symm.eq_nil
    rw [List.map_eq_nil_iff] at this
    exact ⟨[], by rw [this], rfl⟩
  | e :: es, l, h => by
    obtain ⟨x, hx, rfl⟩ := List.mem_map.1 (h.mem_iff.1 (List.mem_cons_self ..))
    obtain ⟨s, t, rfl⟩ := List.append_of_mem hx
    have h1 : (f x :: es).Perm (f x :: (s ++ t).map f) := by
      refine h.trans ?_
      rw [List.map_append, List.map_cons, List.map_append]
      exact List.perm_middle
    obtain ⟨l', h2, rfl⟩ := permC_inv f h1.cons_inv
    exact ⟨x :: l', (h2.cons x).trans List.perm_middle.symm, rfl⟩
theorem rangeC_of {pure : Nat → Bool} {call : CallT} {k : RangeK} {b c : ACode} {s s1 : St} {es : List (AVal × AVal)} {r : AExit × St} (hpre : aOps pure call k.pre s = some (.normal, s1)) (hes : entriesOf k.str (opd s1.tm k.m) s1.h = some es)
    (hall : ∀ es', inOrder k.str es es' → rangeOne (aOps pure call) k (aCode pure call b) (aCode pure call c) s s1 es' = some r) : aCode pure call (.range k b c) s = some r := by
  rw [aCode, rangeA_eq, hpre]
  dsimp only
  rw [hes]
  exact (agreed_some (inOrder_self _ _)).2 hall
def keysOf {β : Type} (m : IM β) : List Int := m.map (·.1)
def freeOf (t : CTree) : List Int := sortInts (keysOf (freeF t ([], [])).2)
/-- The list while the keys are gone over. -/
def accV (acc : List Int) : AVal := if acc = [] then .list [] (some none) else .vec 3 acc.length
def accH (acc : List Int) : Heap := if acc = [] then [] else [.vec (acc.map encI) 1]
def C167 (b : IM Int) (acc : List Int) : St := ⟨kt [4, 12] [accV acc, .ptr (some (2, 0))], [.gone, .map (encB b), .gone] ++ accH acc⟩
theorem isNew_ne (id n : Nat) : isNewList (.vec id n) = false := rfl
theorem isNew_e : isNewList (.list [] (some none)) = true := rfl
theorem opK_append (pure : Nat → Bool) (call : CallT) (sz bytes : Nat) (x y : Opd) (tm : Tmps) (h : Heap) : aOpK pure call (.append sz bytes x y) tm h =
    if isNewList (opd tm x) = true then (match aAppendV h sz (opd tm x) (opd tm y) with | some (v, h') => some (.val v, h') | none => none) else aOp pure call (.append sz bytes x y) tm h := rfl
theorem opK_buildSlice (pure : Nat → Bool) (call : CallT) (sz : Nat) (ps : List Opd) (tm : Tmps) (h : Heap) : aOpK pure call (.buildSlice sz ps) tm h = aOp pure call (.buildSlice sz ps) tm h := rfl
section
variable {L : Lib} (hL : Plain L)
theorem round167 (b : IM Int) (acc : List Int) (hl : acc.length < 2 ^ 30) (k : Int) :
    (rangeRound (aOps L.pure (call L)) 2 fn167_k0 (aCode L.pure (call L) fn167_b0) (.int .i64 k, .agg []) (C167 b acc)).map (fun r => (r.1, gc 3 fn167_k0.kr r.2)) = some (.normal, C167 b (acc ++ [k])) := by
  unfold rangeRound fn167_k0 fn167_b0 C167
  have hall := all_Ints acc
  have hn : acc ++ [k] ≠ [] := by simp
  have e1 : accV (acc ++ [k]) = .vec 3 (acc.length + 1) := by unfold accV; rw [if_neg hn]; simp
  have e2 : accH (acc ++ [k]) = [.vec ((acc ++ [k]).map encI) 1] := by unfold accH; rw [if_neg hn]
  rw [e1, e2]
  by_cases hz : acc = []
  · subst hz
    have e3 : accV [] = .list [] (some none) := rfl
    have e4 : accH [] = [] := rfl
    rw [e3, e4]
    simp -implicitDefEqProofs only [code_kops, opsK_nil, opsK_cons, opK_move, ops_cons, ops_nil, aOp, opd, upd_at, kt_cons, stepVal, leaf, acells_int, gc_mk, isTrim_cons, gcIds_mk, newIds_nil, newIds_cons, gcMap_at, posOf, ren, renC, renO_gone, idsV, idsC, idsO_gone, wipe_int, isData_int, isData_ptr, beq_self_eq_true, Option.map_some, Option.getD_some, List.map_cons, List.map_nil, List.flatMap_cons, List.flatMap_nil, List.length_cons, List.length_nil, List.cons_append, List.nil_append, List.append_nil, List.getElem?_cons_zero, List.getElem?_cons_succ, List.take_succ_cons, List.take_zero, List.all_cons, List.all_nil, List.mem_cons, List.not_mem_nil, ↓reduceIte, Bool.and_true, Bool.false_eq_true, and_true, or_false, not_false_eq_true, decide_true, decide_false, and_self, Nat.le_refl, Nat.zero_add, Nat.reduceEqDiff, Nat.reduceAdd, Nat.reduceLT, Nat.reduceLeDiff, List.cons_ne_nil, maxLen_eq, kt_nil, encI_eq, isData_vec, renO_vec, itAt, blockOf, thenR, opK_append, opK_buildSlice, isNew_e, aAppendV, b_ids, b_ren]
  · have e3 : accV acc = .vec 3 acc.length := by unfold accV; rw [if_neg hz]
    have e4 : accH acc = [.vec (acc.map encI) 1] := by unfold accH; rw [if_neg hz]
    have hle : acc.length + 1 ≤ 1073741824 := by omega
    rw [e3, e4]
    simp -implicitDefEqProofs only [code_kops, opsK_nil, opsK_cons, opK_move, ops_cons, ops_nil, aOp, opd, upd_at, kt_cons, stepVal, leaf, acells_int, gc_mk, isTrim_cons, gcIds_mk, newIds_nil, newIds_cons, gcMap_at, posOf, ren, renC, renO_gone, idsV, idsC, idsO_gone, aAppend, wipe_int, isData_int, isData_ptr, beq_self_eq_true, Option.map_some, Option.getD_some, List.map_cons, List.map_nil, List.flatMap_cons, List.flatMap_nil, List.length_cons, List.length_nil, List.length_map, List.cons_append, List.nil_append, List.append_nil, List.getElem?_cons_zero, List.getElem?_cons_succ, List.set_cons_zero, List.set_cons_succ, List.take_succ_cons, List.take_zero, List.all_cons, List.all_nil, List.mem_cons, List.not_mem_nil, ↓reduceIte, Bool.and_true, Bool.false_eq_true, and_true, or_false, not_false_eq_true, decide_true, decide_false, and_self, Nat.zero_add, Nat.reduceEqDiff, Nat.reduceAdd, Nat.reduceLT, Nat.reduceLeDiff, List.cons_ne_nil, maxLen_eq, List.map_append, kt_nil, encI_eq, isData_vec, renO_vec, ren_Ints, Nat.mul_one, itAt, blockOf, thenR, opK_append, opK_buildSlice, isNew_ne, hle, b_ids, b_ren]
def E167 (b : IM Int) (acc : List Int) : St := ⟨upd (upd (C167 b acc).tm (some 13) (.tuple [.bool false])) (some 14) (.bool false), (C167 b acc).h⟩
theorem end167 (b : IM Int) (acc : List Int) : rangeEnd (aOps L.pure (call L)) 2 fn167_k0 (C167 b acc) = some (.normal, E167 b acc) := by
  unfold rangeEnd fn167_k0 E167 C167
  simp -implicitDefEqProofs only [ops_cons, ops_nil, aOp, opd, upd_at, kt_cons, stepVal, beq_self_eq_true, List.cons_append, List.nil_append, List.getElem?_cons_zero, ↓reduceIte, Bool.and_true, Nat.reduceEqDiff, itAt]
theorem run167 (b : IM Int) : ∀ (o' : IM Unit) (acc : List Int) (s : St), acc.length + o'.length < 2 ^ 30 → gc 3 fn167_k0.kr s = C167 b acc →
    rangeRun (aOps L.pure (call L)) 2 fn167_k0 (aCode L.pure (call L) fn167_b0) (encU o') s = some (.normal, E167 b (acc ++ keysOf o'))
  | [], acc, s, _, hs => by
    show rangeEnd _ 2 fn167_k0 (gc 3 fn167_k0.kr s) = _
    rw [hs]
    have : acc ++ keysOf ([] : IM Unit) = acc := by simp [keysOf]
    rw [this]
    exact end167 b acc
  | e :: o', acc, s, hl, hs => by
    rw [List.length_cons] at hl
    have hr := round167 (L := L) b acc (by omega) e.1
    rw [← hs] at hr
    obtain ⟨⟨x, s'⟩, h1, h2⟩ := Option.map_eq_some_iff.1 hr
    simp only [Prod.mk.injEq] at h2
    obtain ⟨rfl, h2⟩ := h2
    show (match rangeRound _ 2 fn167_k0 _ (.int .i64 e.1, .agg []) (gc 3 fn167_k0.kr s) with | some (.normal, s') => rangeRun _ 2 fn167_k0 _ (encU o') s' | r => blockOf fn167_k0.id r) = _
    rw [h1]
    have := run167 b o' (acc ++ [e.1]) s' (by simp; omega) h2
    rw [List.append_assoc] at this
    exact this
include hL
theorem freeOf_ok (hP : CPrims L sortInts) (h236 : L.fns 236 = some fn236) (h196 : L.fns 196 = some fn196) (h167 : L.fns 167 = some fn167) (t : CTree) (hf : TFit t) (hh : hgt t < 2 ^ 30) (hn : (freeF t ([], [])).2.length < 2 ^ 30) (h : Heap) :
    pcall L 167 [encTree t] h = some (.val (.list ((freeOf t).map encI) none), h) := by
  have hp := hL.pure
  have hfree := free_ok hL h236 h196 t hf 0 [] [] (by omega) (by omega) (fun v => by simp [bget, findK])
  refine pcall_fn hL h167 (by rw [isData_list_none]; exact data_Ints _) ?_ h
  unfold freeOf
  generalize freeF t ([], []) = r at *
  obtain ⟨b, o⟩ := r
  dsimp only at hfree hn ⊢
  have hrange : ∀ (tm : Tmps), tm 3 = .map (some 0) → tm 4 = .list [] (some none) → aCode L.pure (call L) (.range fn167_k0 fn167_b0 fn167_a0) ⟨tm, [.map (encU o), .map (encB b)]⟩ =
      some (.ret, ⟨kt [2] [.list ((sortInts (keysOf o)).map encI) (if sortInts (keysOf o) = [] then some none else none)], [.map (encU o), .map (encB b)]⟩) := by
    intro tm h3 h4
    refine rangeC_of (s1 := ⟨upd tm (some 11) (.map (some 0)), [.map (encU o), .map (encB b)]⟩) (es := encU o) ?_ ?_ ?_
    · unfold fn167_k0
      simp -implicitDefEqProofs only [ops_cons, ops_nil, aOp, opd, h3]
    · unfold fn167_k0
      simp -implicitDefEqProofs only [opd, upd_at, List.getElem?_cons_zero, ↓reduceIte, entriesOf, mapAt, h3]
    · intro es' hes
      have hes' : es'.Perm (o.map fun p => ((.int .i64 p.1 : AVal), AVal.agg [])) := hes
      obtain ⟨o', hpm, rfl⟩ := permC_inv _ hes'
      have hrun := run167 (L := L) b o' [] ⟨upd (upd tm (some 11) (.map (some 0))) (some 12) (.ptr (some (2, 0))), [.gone, .map (encB b), .gone]⟩ (by rw [List.length_nil, hpm.length_eq]; omega) ?_
      · rw [List.nil_append] at hrun
        have hsort : sortInts (keysOf o') = sortInts (keysOf o) := sortInts_congr (hpm.map _)
        rw [← hsort]
        have hlen : (keysOf o').length = o.length := by unfold keysOf; rw [List.length_map, hpm.length_eq]
        generalize keysOf o' = ks at *
        unfold rangeOne
        have hh : hide (opd (upd tm (some 11) (.map (some 0))) fn167_k0.m) [.map (encU o), .map (encB b)] = [.gone, .map (encB b), .gone] := rfl
        have h15 : fn167_k0.it = 12 := rfl
        dsimp only
        rw [hh, h15]
        simp only [List.length_cons, List.length_nil]
        show Option.map _ (match rangeRun _ 2 _ _ (encU o') _ with | some (.normal, s2) => _ | some (e, s2) => _ | none => _) = _
        rw [hrun]
        dsimp only
        have hm2 : opd (upd tm (some 11) (.map (some 0))) fn167_k0.m = .map (some 0) := rfl
        have hk : fn167_k0.keep = [2] := rfl
        rw [hm2, hk]
        have hs0 := hP.sort0
        unfold E167 C167 fn167_a0
        by_cases hz : ks = []
        · subst hz
          have e3 : accV [] = .list [] (some none) := rfl
          have e4 : accH [] = [] := rfl
          have e5 : sortInts [] = [] := rfl
          rw [e3, e4, e5]
          simp -implicitDefEqProofs only [code_ops, code_seq, code_ret, ops_cons, ops_nil, aOp, opd, upd_at, kt_cons, gcE, gc_mk, isTrim_cons, gcIds_mk, newIds_nil, gcMap_at, posOf, ren, renC, idsV, idsC, wipe_list, isData_list_none, isData_list_full, isDataL_nil, isDataL_cons, Option.map_some, Option.getD_some, List.map_cons, List.map_nil, List.flatMap_cons, List.flatMap_nil, List.length_cons, List.length_nil, List.nil_append, List.append_nil, List.getElem?_cons_zero, List.set_cons_zero, List.take_succ_cons, List.take_zero, ↓reduceIte, Bool.and_true, Bool.false_eq_true, decide_false, Nat.zero_add, Nat.reduceEqDiff, Nat.reduceAdd, Nat.reduceLeDiff, kt_nil, code_freeze, freezeS_mk, unhide, hs0, b_ids, b_ren, twice_ids, twice_ren, doCall_p L hp, hp]
        · have e3 : accV ks = .vec 3 ks.length := by unfold accV; rw [if_neg hz]
          have e4 : accH ks = [.vec (ks.map encI) 1] := by unfold accH; rw [if_neg hz]
          have hs1 := hP.sort ks hz (by omega)
          have hzs : ¬ sortInts ks = [] := fun h => hz (by have := sortInts_len ks; rw [h] at this; exact List.length_eq_zero_iff.1 this.symm)
          have hsl := sortInts_len ks
          have hdS := data_Ints (sortInts ks)
          have hwS : ((sortInts ks).map encI).map wipeCell = (sortInts ks).map encI := by rw [List.map_map]; rfl
          have hlS : ((sortInts ks).map encI).all leaf = true := by
            rw [List.all_eq_true]
            intro x hx
            obtain ⟨y, _, rfl⟩ := List.mem_map.1 hx
            rfl
          generalize sortInts ks = ss at *
          rw [e3, e4]
          simp -implicitDefEqProofs only [code_ops, code_seq, code_ret, ops_cons, ops_nil, aOp, opd, upd_at, kt_cons, gcE, gc_mk, isTrim_cons, gcIds_mk, newIds_nil, newIds_cons, gcMap_at, posOf, ren, renC, idsV, idsC, isData_list_none, isData_tuple, isDataL_nil, isDataL_cons, Option.map_some, Option.getD_some, List.map_cons, List.map_nil, List.flatMap_cons, List.flatMap_nil, List.length_cons, List.length_nil, List.length_map, List.cons_append, List.nil_append, List.append_nil, List.getElem?_cons_zero, List.getElem?_cons_succ, List.set_cons_zero, List.set_cons_succ, List.take_succ_cons, List.take_zero, List.take_nil, List.all_cons, List.all_nil, List.not_mem_nil, ↓reduceIte, Bool.and_true, Bool.false_eq_true, true_and, false_and, not_false_eq_true, decide_true, decide_false, and_self, Nat.zero_le, reduceCtorEq, Nat.zero_add, Nat.reduceEqDiff, Nat.reduceAdd, Nat.reduceLT, Nat.reduceLeDiff, kt_nil, code_freeze, freezeS_mk, frzAt_mk, frzT_at, frz, frzC, frzO, rCall_eq, rootsOf_eq, grow_eq, subHeap_eq, newOf_val, putBack_eq, pb_nil, pb_cons, backRes_val, wipe_vec, isData_vec, idsO_vec, renO_vec, ids_Ints, ren_Ints, Nat.mul_one, unhide, hs1, hsl, hzs, hdS, hwS, hlS, b_ids, b_ren, twice_ids, twice_ren, doCall_p L hp, hp]
      · unfold C167 fn167_k0
        have e3 : accV [] = .list [] (some none) := rfl
        have e4 : accH [] = [] := rfl
        rw [e3, e4]
        simp -implicitDefEqProofs only [upd_at, gc_mk, isTrim_cons, gcIds_mk, newIds_nil, newIds_cons, gcMap_at, posOf, ren, renC, renO_gone, idsV, idsC, idsO_gone, isData_list_full, isData_ptr, isDataL_nil, List.map_cons, List.map_nil, List.flatMap_cons, List.flatMap_nil, List.length_cons, List.length_nil, List.nil_append, List.append_nil, List.take_succ_cons, List.take_nil, List.not_mem_nil, ↓reduceIte, Bool.false_eq_true, and_true, not_false_eq_true, decide_false, Nat.le_refl, Nat.zero_add, Nat.reduceEqDiff, Nat.reduceAdd, Nat.reduceLT, Nat.reduceLeDiff, h4, b_ids, b_ren]
  obtain ⟨tc, htc, hdt⟩ := enc_vptr t
  have hn0 : encB [] = [] := rfl
  have hn1 : encU [] = [] := rfl
  rw [hn0, hn1] at hfree
  rw [htc] at hfree ⊢
  generalize (if sortInts (keysOf o) = [] then some none else none : Option (Option Nat)) = ow at *
  unfold fn167
  generalize fn167_k0 = kk at *
  generalize fn167_b0 = bb at *
  generalize fn167_a0 = aa at *
  simp -implicitDefEqProofs only [code_ops, code_seq, ops_cons, ops_nil, aOp, opd, upd_at, initTm_at, kt_cons, endFn, aResults, aResult, tupled, newIds_nil, newIds_cons, posOf, ren, renC, renO_nilm, idsV, idsC, idsO_nilm, wipeR_list, wipe_vptr, wipe_map, isData_tuple, isData_vptr, isData_map, isDataL_nil, isDataL_cons, Option.getD_some, List.map_cons, List.map_nil, List.flatMap_cons, List.flatMap_nil, List.length_cons, List.length_nil, List.cons_append, List.nil_append, List.append_nil, List.getElem?_cons_zero, List.getElem?_cons_succ, List.take_succ_cons, List.take_nil, List.all_cons, List.all_nil, List.mem_cons, List.not_mem_nil, ↓reduceIte, Bool.and_true, Bool.and_false, Bool.false_eq_true, or_false, not_false_eq_true, decide_true, and_self, Nat.le_refl, Nat.zero_le, reduceCtorEq, Nat.zero_add, Nat.reduceEqDiff, Nat.reduceAdd, Nat.reduceLT, rCall_eq, rootsOf_eq, grow_eq, subHeap_eq, newOf_val, putBack_eq, pb_nil, pb_cons, backRes_val, outOf_val, hfree, hrange, hdt, b_ids, b_ren, twice_ids, twice_ren, doCall_p L hp, hp]
end
end Go.Abs
