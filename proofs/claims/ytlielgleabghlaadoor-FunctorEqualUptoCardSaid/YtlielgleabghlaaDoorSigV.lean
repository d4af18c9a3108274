/-
  What is asked of each requirement of a scheme: a matcher is copied, and tries. Conditions: none.
-/
import Derived.Test.YtlielgleabghlaaDoorSigU

set_option linter.unusedVariables false
set_option linter.unusedSimpArgs false
set_option maxRecDepth 100000
set_option maxHeartbeats 4000000
namespace Go.Abs

/-! ### Maps in the order of their keys -/
def MSort (m : Mt) : Prop := m.Pairwise fun p q => p.1 < q.1
theorem insM_perm (v : Int) (t : Ty) : ∀ m : Mt, (insM v t m).Perm ((v, t) :: m)
  | [] => .refl _
  | p :: m => by
    unfold insM
    split
    · exact .refl _
    · exact ((insM_perm v t m).cons p).trans (.swap _ _ _)
theorem insM_sort {v : Int} {t : Ty} : ∀ {m : Mt}, MSort m → (∀ p ∈ m, p.1 ≠ v) → MSort (insM v t m)
  | [], _, _ => List.pairwise_singleton _ _
  | p :: m, hs, hn => by
    unfold MSort at hs
    rw [List.pairwise_cons] at hs
    unfold insM
    split
    · rename_i h
      refine List.pairwise_cons.2 ⟨fun q hq => ?_, List.pairwise_cons.2 hs⟩
      rcases List.mem_cons.1 hq with rfl | hq
      · exact h
      · have := hs.1 q hq
        show v < q.1
        omega
    · rename_i h
      have h1 := hn p (by simp)
      refine List.pairwise_cons.2 ⟨fun q hq => ?_, insM_sort (m := m) hs.2 fun q hq => hn q (by simp [hq])⟩
      rcases List.mem_cons.1 ((insM_perm v t m).mem_iff.1 hq) with rfl | hq
      · show p.1 < v
        omega
      · exact hs.1 q hq
theorem findM_none {v : Int} : ∀ {m : Mt}, findM v m = none ↔ ∀ p ∈ m, p.1 ≠ v
  | [] => by simp [findM]
  | p :: m => by
    unfold findM
    by_cases h : v = p.1
    · simp [h]
    · rw [if_neg h, findM_none]
      simp only [List.mem_cons, forall_eq_or_imp]
      exact ⟨fun h2 => ⟨fun h3 => h h3.symm, h2⟩, fun h2 => h2.2⟩
theorem findM_some_mem {v : Int} {t : Ty} : ∀ {m : Mt}, findM v m = some t → (v, t) ∈ m
  | [], h => by cases h
  | p :: m, h => by
    unfold findM at h
    split at h
    · rename_i hv
      injection h with h
      rw [hv, ← h]
      simp
    · exact List.mem_cons_of_mem _ (findM_some_mem h)
theorem insts_sort : ∀ (as bs : List Ty) (m : Mt), (∀ a ∈ as, ∀ (b : Ty) (m : Mt), MSort m → MSort (inst a b m).2) → MSort m → MSort (inst.insts as bs m).2
  | [], bs, m, ih, hm => by rw [insts_nil]; exact hm
  | a :: as, [], m, ih, hm => by
    rw [inst.insts]
    · exact hm
    · simp
  | a :: as, b :: bs, m, ih, hm => by
    rw [insts_cons]
    have h1 := ih a (by simp) b m hm
    split
    · rename_i m' he
      rw [he] at h1
      exact insts_sort as bs m' (fun x hx => ih x (by simp [hx])) h1
    · rename_i m' he
      rw [he] at h1
      exact h1
theorem inst_sort (a : Ty) : ∀ (b : Ty) (m : Mt), MSort m → MSort (inst a b m).2 := by
  induction a using Ty.ind with
  | h k n v as ih =>
    intro b m hm
    rw [inst_eq]
    split
    · split
      · exact hm
      · rename_i hf
        exact insM_sort hm (findM_none.1 hf)
    · split
      · exact hm
      · split
        · exact hm
        · split
          · exact hm
          · exact insts_sort as b.args m ih hm

def foldM (m' acc : Mt) : Mt := m'.foldl (fun acc p => insM p.1 p.2 acc) acc
theorem foldM_ok : ∀ (m' acc : Mt), MSort acc → (m' ++ acc).Pairwise (fun p q => p.1 ≠ q.1) → MSort (foldM m' acc) ∧ (foldM m' acc).Perm (m' ++ acc)
  | [], acc, hs, _ => ⟨hs, .refl _⟩
  | p :: m', acc, hs, hp => by
    rw [List.cons_append, List.pairwise_cons] at hp
    have h1 : MSort (insM p.1 p.2 acc) := insM_sort hs fun q hq => Ne.symm (hp.1 q (by simp [hq]))
    have h2 : (m' ++ insM p.1 p.2 acc).Perm (p :: (m' ++ acc)) := ((insM_perm p.1 p.2 acc).append_left m').trans List.perm_middle
    have h3 := foldM_ok m' (insM p.1 p.2 acc) h1 ((h2.pairwise_iff (R := fun p q : Int × Ty => p.1 ≠ q.1) fun h => Ne.symm h).2 (List.pairwise_cons.2 hp))
    exact ⟨h3.1, h3.2.trans h2⟩
theorem MSort.ne {m : Mt} (h : MSort m) : m.Pairwise fun p q => p.1 ≠ q.1 := h.imp fun h => by omega
theorem foldM_perm {m m' : Mt} (hs : MSort m) (hp : m'.Perm m) : foldM m' [] = m := by
  have hne : (m' ++ []).Pairwise (fun p q : Int × Ty => p.1 ≠ q.1) := by
    rw [List.append_nil]
    exact (hp.pairwise_iff (R := fun p q : Int × Ty => p.1 ≠ q.1) fun h => Ne.symm h).2 hs.ne
  obtain ⟨h1, h2⟩ := foldM_ok m' [] .nil hne
  rw [List.append_nil] at h2
  exact List.Perm.eq_of_pairwise (le := fun p q : Int × Ty => p.1 < q.1) (fun a b _ _ h3 h4 => by omega) h1 hs (h2.trans hp)

theorem perm_map_inv {α β : Type} (f : α → β) : ∀ {es : List β} {l : List α}, es.Perm (l.map f) → ∃ l' : List α, l'.Perm l ∧ es = l'.map f
  | [], l, h => by
    have := h.symm.eq_nil
    rw [List.map_eq_nil_iff] at this
    exact ⟨[], by rw [this], rfl⟩
  | e :: es, l, h => by
    obtain ⟨x, hx, rfl⟩ := List.mem_map.1 (h.mem_iff.1 (List.mem_cons_self ..))
    obtain ⟨s, t, rfl⟩ := List.append_of_mem hx
    have h1 : (f x :: es).Perm (f x :: (s ++ t).map f) := by
      refine h.trans ?_
      rw [List.map_append, List.map_cons, List.map_append]
      exact List.perm_middle
    obtain ⟨l', h2, rfl⟩ := perm_map_inv f h1.cons_inv
    exact ⟨x :: l', (h2.cons x).trans List.perm_middle.symm, rfl⟩

/-! ### Loops over a map, as a rule -/
theorem code_range_of {pure : Nat → Bool} {call : CallT} {k : RangeK} {b c : ACode} {s s1 : St} {es : List (AVal × AVal)} {r : AExit × St} (hpre : aOps pure call k.pre s = some (.normal, s1)) (hes : entriesOf k.str (opd s1.tm k.m) s1.h = some es)
    (hall : ∀ es', inOrder k.str es es' → rangeOne (aOps pure call) k (aCode pure call b) (aCode pure call c) s s1 es' = some r) : aCode pure call (.range k b c) s = some r := by
  rw [aCode, rangeA_eq, hpre]
  dsimp only
  rw [hes]
  exact (agreed_some (inOrder_self _ _)).2 hall

def pCells (p : Pred) : List AVal := [.str p.cls, .int .i64 p.type.kind, .str p.type.name, .int .i64 p.type.var, .list (p.type.args.map encTy) none]
theorem pCells_eq (p : Pred) : pCells p = [.str p.cls, .int .i64 p.type.kind, .str p.type.name, .int .i64 p.type.var, .list (p.type.args.map encTy) none] := rfl
def gHeap (m : Mt) : Heap := [.box [.ptr (some (1, 0))], .box [.map (some 2)], .map (encM m)]
def C57 (p q : Pred) (acc : Mt) : St := ⟨kt [2, 3, 5, 15] [.vptr (pCells p) 0, .ptr (some (3, 0)), .ptr (some (5, 0)), .ptr (some (6, 0))],
  [.box [.ptr (some (1, 0))], .box [.map (some 2)], .gone, .box (pCells q), .map (encM acc), .box [.map (some 4)], .gone]⟩

theorem round57 {L : Lib} (hL : Plain L) (p q : Pred) (acc : Mt) (k : Int) (t : Ty) (hf : findM k acc = none) :
    (rangeRound (aOps L.pure (call L)) 6 fn57_k0 (aCode L.pure (call L) fn57_b0) (.int .i64 k, encTy t) (C57 p q acc)).map (fun r => (r.1, gc 7 fn57_k0.kr r.2)) = some (.normal, C57 p q (insM k t acc)) := by
  have hp := hL.pure
  have hj := find_none 0 hf
  have hins := encM_ins k t acc
  rw [encTy_eq t] at hins
  unfold rangeRound fn57_k0 fn57_b0 C57
  simp -implicitDefEqProofs only [code_draw, ops_cons, ops_nil, aOp, opd, upd_at, upd_none, kt_cons, stepVal, stepHeap, aWanted, aLoad1, aStore, readAt, aField, leaf, acells_agg, cellsSet, gc_mk, gcIds_mk, newIds_nil, newIds_cons, gcMap_at, posOf, ren, renC, renO_gone, renO_box, idsV, idsC, idsO_gone, idsO_box, draw_eq, opsH_nil, opsH_cons, isLoud, wipe_agg, wipeC_list, wipeC_int, wipeC_str, isData_list_none, isData_int, isData_str, isData_vptr, isData_ptr, isData_map, isDataL_nil, isDataL_cons, beq_self_eq_true, Option.map_some, List.map_cons, List.map_nil, List.flatMap_cons, List.flatMap_nil, List.length_cons, List.length_nil, List.cons_append, List.nil_append, List.append_nil, List.getElem?_cons_zero, List.getElem?_cons_succ, List.set_cons_zero, List.set_cons_succ, List.take_succ_cons, List.take_zero, List.drop_succ_cons, List.drop_zero, List.take_nil, List.drop_nil, List.all_cons, List.all_nil, List.not_mem_nil, ↓reduceIte, Bool.and_true, Bool.false_eq_true, and_true, not_false_eq_true, and_self, Nat.le_refl, Nat.add_zero, Nat.zero_add, Nat.reduceEqDiff, Nat.reduceAdd, Nat.reduceLT, Nat.reduceLeDiff, checksP_nil, drawTo_if, kt_nil, encTy_eq, data_Tys, ↓renO_encM, ↓idsO_encM, itAt, blockOf, thenR, pCells_eq, aMapUpdate, keyable, hj, hins]

def E57 (p q : Pred) (acc : Mt) : St := ⟨upd (upd (C57 p q acc).tm (some 16) (.tuple [.bool false])) (some 17) (.bool false), (C57 p q acc).h⟩
theorem end57 {L : Lib} (p q : Pred) (acc : Mt) : rangeEnd (aOps L.pure (call L)) 6 fn57_k0 (C57 p q acc) = some (.normal, E57 p q acc) := by
  unfold rangeEnd fn57_k0 E57 C57
  simp -implicitDefEqProofs only [ops_cons, ops_nil, aOp, opd, upd_at, kt_cons, stepVal, beq_self_eq_true, List.getElem?_cons_zero, ↓reduceIte, Bool.and_true, Nat.reduceEqDiff, itAt]
theorem run57 {L : Lib} (hL : Plain L) (p q : Pred) : ∀ (m' acc : Mt) (s : St), gc 7 fn57_k0.kr s = C57 p q acc → (m' ++ acc).Pairwise (fun p q => p.1 ≠ q.1) →
    rangeRun (aOps L.pure (call L)) 6 fn57_k0 (aCode L.pure (call L) fn57_b0) (encM m') s = some (.normal, E57 p q (foldM m' acc))
  | [], acc, s, hs, _ => by
    show rangeEnd _ 6 fn57_k0 (gc 7 fn57_k0.kr s) = _
    rw [hs]
    exact end57 p q acc
  | e :: m', acc, s, hs, hd => by
    rw [List.cons_append, List.pairwise_cons] at hd
    have hf : findM e.1 acc = none := findM_none.2 fun x hx => Ne.symm (hd.1 x (by simp [hx]))
    have hr := round57 hL p q acc e.1 e.2 hf
    rw [← hs] at hr
    obtain ⟨⟨x, s'⟩, h1, h2⟩ := Option.map_eq_some_iff.1 hr
    simp only [Prod.mk.injEq] at h2
    obtain ⟨rfl, h2⟩ := h2
    have h3 : (m' ++ insM e.1 e.2 acc).Perm (e :: (m' ++ acc)) := ((insM_perm e.1 e.2 acc).append_left m').trans List.perm_middle
    have h4 := run57 hL p q m' (insM e.1 e.2 acc) s' h2 ((h3.pairwise_iff (R := fun p q : Int × Ty => p.1 ≠ q.1) fun h => Ne.symm h).2 (List.pairwise_cons.2 hd))
    show (match rangeRound _ 6 fn57_k0 _ (.int .i64 e.1, encTy e.2) (gc (6 + 1) fn57_k0.kr s) with | some (.normal, s') => rangeRun _ 6 fn57_k0 _ (encM m') s' | r => blockOf fn57_k0.id r) = _
    rw [h1]
    exact h4

def trial (m : Mt) (p q : Pred) : Bool × Mt := if q.cls = p.cls then inst p.type q.type m else (false, m)
theorem range57 {L : Lib} (hL : Plain L) (h70 : L.fns 70 = some fn70) (h71 : L.fns 71 = some fn71) (h55 : L.fns 55 = some fn55) (p q : Pred) (hpf : TyFit p.type) (hqf : TyFit q.type) (m : Mt) (hm : MFit m) (hs : MSort m) (tm : Tmps)
    (h1 : tm 1 = .ptr (some (0, 0))) (h2 : tm 2 = .vptr (pCells p) 0) (h3 : tm 3 = .ptr (some (3, 0))) (h5 : tm 5 = .ptr (some (5, 0))) :
    aCode L.pure (call L) (.range fn57_k0 fn57_b0 fn57_a0) ⟨tm, [.box [.ptr (some (1, 0))], .box [.map (some 2)], .map (encM m), .box (pCells q), .map [], .box [.map (some 4)]]⟩ =
      some (.ret, ⟨kt [4] [.bool (trial m p q).1], [.box [.ptr (some (1, 0))], .box [.map (some 2)], .map (encM m), .box (pCells q), .map (encM (trial m p q).2), .box [.map (some 4)]]⟩) := by
  have hp := hL.pure
  refine code_range_of (s1 := ⟨upd (upd (upd (upd tm (some 11) (.ptr (some (1, 0)))) (some 12) (.ptr (some (1, 0)))) (some 13) (.ptr (some (1, 0)))) (some 14) (.map (some 2)), [.box [.ptr (some (1, 0))], .box [.map (some 2)], .map (encM m), .box (pCells q), .map [], .box [.map (some 4)]]⟩) (es := encM m) ?_ ?_ ?_
  · unfold fn57_k0
    simp -implicitDefEqProofs only [ops_cons, ops_nil, aOp, opd, upd_at, stepVal, aLoad1, aField, List.getElem?_cons_zero, List.getElem?_cons_succ, ↓reduceIte, Nat.add_zero, h1]
  · unfold fn57_k0
    simp -implicitDefEqProofs only [opd, upd_at, List.getElem?_cons_zero, List.getElem?_cons_succ, ↓reduceIte, entriesOf, mapAt]
  · intro es' hes
    have hes' : es'.Perm (m.map fun p => ((.int .i64 p.1 : AVal), encTy p.2)) := hes
    obtain ⟨m', hpm, rfl⟩ := perm_map_inv _ hes'
    have hne : (m' ++ []).Pairwise (fun p q : Int × Ty => p.1 ≠ q.1) := by
      rw [List.append_nil]
      exact (hpm.pairwise_iff (R := fun p q : Int × Ty => p.1 ≠ q.1) fun h => Ne.symm h).2 hs.ne
    have hrun := run57 hL p q m' [] ⟨upd (upd (upd (upd (upd tm (some 11) (.ptr (some (1, 0)))) (some 12) (.ptr (some (1, 0)))) (some 13) (.ptr (some (1, 0)))) (some 14) (.map (some 2))) (some 15) (.ptr (some (6, 0))),
      [.box [.ptr (some (1, 0))], .box [.map (some 2)], .gone, .box (pCells q), .map [], .box [.map (some 4)], .gone]⟩ ?_ hne
    · rw [foldM_perm hs hpm] at hrun
      unfold rangeOne
      have hh : hide (opd (upd (upd (upd (upd tm (some 11) (.ptr (some (1, 0)))) (some 12) (.ptr (some (1, 0)))) (some 13) (.ptr (some (1, 0)))) (some 14) (.map (some 2))) fn57_k0.m) [.box [.ptr (some (1, 0))], .box [.map (some 2)], .map (encM m), .box (pCells q), .map [], .box [.map (some 4)]] =
        [.box [.ptr (some (1, 0))], .box [.map (some 2)], .gone, .box (pCells q), .map [], .box [.map (some 4)], .gone] := rfl
      have h15 : fn57_k0.it = 15 := rfl
      dsimp only
      rw [hh, h15]
      simp only [List.length_cons, List.length_nil]
      show Option.map _ (match rangeRun _ 6 _ _ (encM m') _ with | some (.normal, s2) => _ | some (e, s2) => _ | none => _) = _
      rw [hrun]
      dsimp only
      have hinst := inst_ok hL h70 h71 h55 p.type q.type hpf hqf m hm
      unfold E57 C57 fn57_a0 trial
      have hm2 : opd (upd (upd (upd (upd tm (some 11) (.ptr (some (1, 0)))) (some 12) (.ptr (some (1, 0)))) (some 13) (.ptr (some (1, 0)))) (some 14) (.map (some 2))) fn57_k0.m = .map (some 2) := rfl
      have hk : fn57_k0.keep = [4] := rfl
      rw [hm2, hk]
      by_cases hc : q.cls = p.cls
      · have hc' : decide (q.cls = p.cls) = true := by simpa using hc
        rw [if_pos hc]
        simp -implicitDefEqProofs only [code_ops, code_seq, code_ret, ops_cons, ops_cons_g, ops_nil, aOp, opd, upd_at, kt_cons, stepVal, aBin, aStr, aWanted, aLoad1, readAt, aField, gcE, gc_mk, gcIds_mk, newIds_nil, newIds_cons, gcMap_at, posOf, ren, renC, renO_box, idsV, idsC, idsO_box, wipe_agg, wipe_ptr, wipeC_list, wipeC_int, wipeC_str, isData_list_none, isData_bool, isData_int, isData_str, isData_agg, isData_ptr, isData_map, isDataL_nil, isDataL_cons, beq_self_eq_true, Option.map_some, Option.getD_some, List.map_cons, List.map_nil, List.flatMap_cons, List.flatMap_nil, List.length_cons, List.length_nil, List.cons_append, List.nil_append, List.append_nil, List.getElem?_cons_zero, List.getElem?_cons_succ, List.set_cons_zero, List.set_cons_succ, List.take_succ_cons, List.take_zero, List.drop_succ_cons, List.drop_zero, List.take_nil, List.all_cons, List.all_nil, List.mem_cons, List.not_mem_nil, ↓reduceIte, Bool.and_true, Bool.false_eq_true, and_true, and_false, or_true, or_false, not_true_eq_false, not_false_eq_true, decide_true, and_self, Nat.le_refl, Nat.zero_le, reduceCtorEq, Nat.add_zero, Nat.zero_add, Nat.reduceEqDiff, Nat.reduceAdd, Nat.reduceLT, Nat.reduceLeDiff, kt_nil, rCall_eq, rootsOf_eq, grow_eq, subHeap_eq, putBack_eq, pb_nil, pb_cons, backRes_val, data_Tys, ↓renO_encM, ↓idsO_encM, unhide, pCells_eq, hc', hinst, doCall_p L hp, hp]
      · have hc' : decide (q.cls = p.cls) = false := by simpa using hc
        rw [if_neg hc]
        simp -implicitDefEqProofs only [code_ops, code_seq, code_ret, ops_cons, ops_cons_g, ops_nil, aOp, opd, upd_at, kt_cons, stepVal, aBin, aStr, aWanted, aLoad1, aField, gcE, gc_mk, gcIds_mk, newIds_nil, newIds_cons, gcMap_at, posOf, ren, renC, renO_box, idsV, idsC, idsO_box, isData_list_none, isData_bool, isData_int, isData_str, isData_ptr, isData_map, beqFT, Option.map_some, Option.getD_some, List.map_cons, List.map_nil, List.flatMap_cons, List.flatMap_nil, List.length_cons, List.length_nil, List.cons_append, List.nil_append, List.append_nil, List.getElem?_cons_zero, List.getElem?_cons_succ, List.set_cons_zero, List.set_cons_succ, List.take_succ_cons, List.take_zero, List.not_mem_nil, ↓reduceIte, Bool.false_eq_true, and_true, not_false_eq_true, Nat.add_zero, Nat.zero_add, Nat.reduceEqDiff, Nat.reduceAdd, Nat.reduceLT, Nat.reduceLeDiff, kt_nil, data_Tys, ↓renO_encM, ↓idsO_encM, unhide, pCells_eq, hc', doCall_p L hp, hp]
    · unfold C57 fn57_k0
      have h0 : encM [] = [] := rfl
      simp -implicitDefEqProofs only [upd_at, gc_mk, gcIds_mk, newIds_nil, newIds_cons, gcMap_at, posOf, ren, renC, renO_gone, renO_box, renO_nilm, idsV, idsC, idsO_gone, idsO_box, idsO_nilm, isData_list_none, isData_int, isData_str, isData_vptr, isData_ptr, isData_map, isDataL_nil, isDataL_cons, List.map_cons, List.map_nil, List.flatMap_cons, List.flatMap_nil, List.length_cons, List.length_nil, List.cons_append, List.nil_append, List.append_nil, List.take_succ_cons, List.take_nil, List.not_mem_nil, ↓reduceIte, Bool.and_true, Bool.false_eq_true, and_true, not_false_eq_true, Nat.le_refl, Nat.zero_add, Nat.reduceEqDiff, Nat.reduceAdd, Nat.reduceLT, Nat.reduceLeDiff, data_Tys, ↓renO_encM, ↓idsO_encM, pCells_eq, h1, h2, h3, h5, h0]
end Go.Abs
