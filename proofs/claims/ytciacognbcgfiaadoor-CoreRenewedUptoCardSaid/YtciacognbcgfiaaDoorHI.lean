/-
  PARTS OF A PROOF, joined: an abstract machine for quiet code, its evaluation, and what the seat's functions answer on it. Conditions: none.
-/
import Derived.Test.YtciacognbcgfiaaDoorHeapH
import Derived.Test.YtciacognbcgfiaaDoorW
/-
  Renew on the machine. Conditions: none.
-/
set_option linter.unusedVariables false
set_option linter.unusedSimpArgs false
set_option maxRecDepth 100000
set_option maxHeartbeats 4000000
namespace Go.Abs
theorem HT.lt {H : Heap} {t : CTree} {p : Nat} {fp : List Nat} (h : HT H t p fp) : ∀ q ∈ fp, q < H.length := by
  induction h with
  | mk op n binds kids alts p bv fb ps ow fks avs oa fa hbox hb ha hl1 hl2 hk ih =>
    intro q hq
    rcases List.mem_cons.1 hq with rfl | hq
    · exact hlt hbox
    · rcases List.mem_append.1 hq with hq | hq
      · exact hb.lt q hq
      · rcases List.mem_append.1 hq with hq | hq
        · exact ha.lt q hq
        · obtain ⟨f, hf, hq⟩ := List.mem_flatten.1 hq
          obtain ⟨i, hi, rfl⟩ := List.getElem_of_mem hf
          exact ih i (by omega) q hq
mutual
theorem renF_hgt : ∀ (t : CTree) (s : RS), hgt (renF t s).1 = hgt t
  | .mk op n binds kids alts, s => by rw [renF, hgt, hgt, renKs_hgt]
theorem renKs_hgt : ∀ (ts : List CTree) (s : RS), hgts (renKs ts s).1 = hgts ts
  | [], s => by rw [renKs]
  | t :: ts, s => by rw [renKs, hgts, hgts, renF_hgt t, renKs_hgt ts]
end
mutual
theorem renF_size : ∀ (t : CTree) (s : RS), tsize (renF t s).1 = tsize t
  | .mk op n binds kids alts, s => by rw [renF, tsize, tsize, renKs_size]
theorem renKs_size : ∀ (ts : List CTree) (s : RS), tsizes (renKs ts s).1 = tsizes ts
  | [], s => by rw [renKs]
  | t :: ts, s => by rw [renKs, tsizes, tsizes, renF_size t, renKs_size ts]
end
theorem frA_flat (as : List CAlt) : ∀ s : RS, ((frA as s).1.flatMap (·.binds)).length = (as.flatMap (·.binds)).length := by
  induction as with
  | nil => intro s; rfl
  | cons a as ih =>
    intro s
    rw [frA, List.flatMap_cons, List.flatMap_cons, List.length_append, List.length_append, ih, seqI_len]
theorem renBs_len (op : Int) (binds : List Int) (s : RS) : (renBs op binds s).length = binds.length := by
  unfold renBs
  split
  · rfl
  · exact seqI_len _ _
theorem renKs_mem : ∀ (ks : List CTree) (s : RS), ∀ k' ∈ (renKs ks s).1, ∃ k ∈ ks, ∃ s', k' = (renF k s').1
  | [], s, k', h => by rw [renKs] at h; cases h
  | k :: ks, s, k', h => by
    rw [renKs] at h
    rcases List.mem_cons.1 h with h | h
    · exact ⟨k, by simp, s, h⟩
    · obtain ⟨q, hq, s', he⟩ := renKs_mem ks _ k' h
      exact ⟨q, by simp [hq], s', he⟩
theorem renF_fit (t : CTree) (h : TFit t) : ∀ s : RS, TFit (renF t s).1 := by
  induction t using CTree.ind with
  | h op n binds kids alts ih =>
    intro s
    cases h with
    | mk _ _ _ _ _ hb hk ha hfk =>
    rw [renF]
    refine .mk _ _ _ _ _ ?_ (by rw [renKs_len]; exact hk) (by rw [frA_len]; exact ha) ?_
    · rw [List.length_append] at hb ⊢
      rw [frA_flat, renBs_len]
      exact hb
    · intro k' hk'
      obtain ⟨k, hk, s', rfl⟩ := renKs_mem _ _ _ hk'
      exact ih k hk (hfk k hk) s'
theorem hsl3 {A l : Heap} {o o2 o3 b : AObj} {n : Nat} (h : n = A.length + 2) : (A ++ o :: o2 :: o3 :: l).set n b = A ++ o :: o2 :: b :: l := by subst h; simp
theorem hsl4 {A l : Heap} {o o2 o3 o4 b : AObj} {n : Nat} (h : n = A.length + 3) : (A ++ o :: o2 :: o3 :: o4 :: l).set n b = A ++ o :: o2 :: o3 :: b :: l := by subst h; simp
theorem hgl4 {A l : Heap} {o o2 o3 o4 : AObj} {n : Nat} (h : n = A.length + 3) : (A ++ o :: o2 :: o3 :: o4 :: l)[n]? = some o4 := by subst h; simp
theorem viewS_mk (tm : Tmps) (h : Heap) : viewS ⟨tm, h⟩ = ⟨fun i => viewV h (tm i), h.map fun _ => .gone⟩ := rfl
section
variable {L : Lib}
theorem rename_ok (hL : Plain L) (h171 : L.fns 171 = some fn171) (h207 : L.fns 207 = some fn207) (h208 : L.fns 208 = some fn208) (t : CTree) (hf : TFit t) (H : Heap) (p : Nat) (fp : List Nat) (hT : HT H t p fp) (hnd : fp.Nodup) (a : Int) (ha : 0 ≤ a) (hb : (renF t ([], a)).2.2 < 2 ^ 50) :
    ∃ H', call L 171 [nptr p, .int .i64 a] H = some (.val (.int .i64 (renF t ([], a)).2.2), H') ∧ HT H' (renF t ([], a)).1 p fp := by
  have hlt' := hT.lt
  have hE : RE (H ++ [.box [.int .i64 a], .map [], .box [.map (some (H.length + 1))], .box [.func 207 [] [nptr (H.length + 2), nptr H.length, nptr (H.length + 3)]]]) (H.length + 2) H.length (H.length + 3) (H.length + 1) ([], a) :=
    ⟨hgl3 rfl, hgl rfl, by simp, hgl2 rfl⟩
  obtain ⟨H', c1, c2, c3, c4, c5⟩ := ren_ok hL h207 h208 t hf _ p fp ([], a) _ _ _ _ (hT.frame fun q hq => hga (hlt' q hq)) hnd hE (fun h => by have := hlt' _ h; omega) (fun h => by have := hlt' _ h; omega) (fun h => by have := hlt' _ h; omega) (fun h => by have := hlt' _ h; omega) ha hb
  refine ⟨H', ?_, c3⟩
  refine call_of (hL.summ 171 (by rw [h171]; simp)) h171 ?_
  have g1 := c2.f
  unfold nptr at *
  unfold fn171
  simp -implicitDefEqProofs only [code_ops, code_seq, code_ret, ops_cons, ops_nil, aOp, opd, upd_at, upd_none, initTm_at, stepVal, stepHeap, aLoad1, aStore, leaf, acells_int, acells_map, acells_func, cellsSet, endFn, aResults, aResult, tupled, Option.getD_some, List.map_cons, List.map_nil, List.length_cons, List.length_nil, List.length_append, List.cons_append, List.nil_append, List.append_nil, List.append_assoc, List.getElem?_cons_zero, List.getElem?_cons_succ, List.take_zero, List.drop_succ_cons, List.drop_nil, List.all_cons, List.all_nil, ↓reduceIte, Bool.and_true, and_self, Nat.le_refl, reduceCtorEq, Nat.zero_add, Nat.reduceEqDiff, Nat.reduceAdd, c1, g1, hgl, hgl2, hgl3, hgl4, hsl, hsl2, hsl3, hsl4, hga]
/-- A quiet call of Grow. -/
theorem grow_quiet (hL : Plain L) (hP : MPrims L) (h160 : L.fns 160 = some fm160) (e : List CExpr) (h : Heap) (hl : e.length < 2 ^ 30) (hf : ∀ x ∈ e, NodeFit x) (hT : TreeL e) (hh : hgt (grow1 e) ≤ 400) :
    pcall L 160 [.list (e.map encExpr) none] h = some (.val (encTree (grow1 e)), h) := by
  obtain ⟨H, p, fp, h1, h2, _⟩ := mgrow_ok hL hP h160 e hl hf hT []
  have hv := h2.look (by omega)
  obtain ⟨tc, htc, hdt⟩ := enc_vptr (grow1 e)
  refine pcall_of_view h1 ?_ (data_Tree _) h
  unfold dataR
  rw [if_neg (by simp [nptr, wipeR, wipe, wipeCell, isData]), hv, htc, wipeR_vptr]
/-- What Renew answers. -/
def renewOf (e : List CExpr) (a : Int) : List CExpr × Int :=
  if checkErr e = 0 then (if a < 0 ∨ 1048576 < a then ([], 4) else if 1048576 < (renF (grow1 e) ([], a)).2.2 then ([], 4) else (listOf (renF (grow1 e) ([], a)).1, 0)) else ([], checkErr e)
end
theorem frA_next (as : List CAlt) : ∀ s : RS, (frA as s).2.2 = s.2 + (as.flatMap (·.binds)).length := by
  induction as with
  | nil => intro s; simp [frA]
  | cons a as ih =>
    intro s
    rw [frA, List.flatMap_cons, List.length_append]
    have := ih (frL a.binds s)
    rw [frL_next] at this
    show (frA as (frL a.binds s)).2.2 = _
    omega
mutual
theorem renF_next : ∀ (t : CTree) (s : RS), (renF t s).2.2 ≤ s.2 + ((nodesT t).map fun l => (l.binds ++ l.alts.flatMap (·.binds)).length).sum
  | .mk op n binds kids alts, s => by
    rw [renF, nodesT]
    have h1 := renKs_next kids (frA alts (renBS op binds s)).2
    have h2 := frA_next alts (renBS op binds s)
    have h3 : (renBS op binds s).2 ≤ s.2 + binds.length := by
      unfold renBS
      split
      · omega
      · rw [frL_next]; omega
    simp only [List.map_append, List.sum_append, List.map_cons, List.map_nil, List.sum_cons, List.sum_nil, List.length_append] at h1 ⊢
    omega
theorem renKs_next : ∀ (ts : List CTree) (s : RS), (renKs ts s).2.2 ≤ s.2 + ((nodesTs ts).map fun l => (l.binds ++ l.alts.flatMap (·.binds)).length).sum
  | [], s => by rw [renKs, nodesTs]; simp
  | t :: ts, s => by
    rw [renKs, nodesTs]
    have h1 := renF_next t s
    have h2 := renKs_next ts (renF t s).2
    simp only [List.map_append, List.sum_append] at h1 h2 ⊢
    omega
end
theorem sum_le (l : List Nat) (b : Nat) (h : ∀ x ∈ l, x ≤ b) : l.sum ≤ l.length * b := by
  induction l with
  | nil => simp
  | cons x l ih =>
    rw [List.sum_cons, List.length_cons, Nat.add_mul, Nat.one_mul]
    have h1 := h x (by simp)
    have h2 := ih fun y hy => h y (by simp [hy])
    omega
theorem tfit_nodes (t : CTree) (h : TFit t) : ∀ l ∈ nodesT t, (l.binds ++ l.alts.flatMap (·.binds)).length < 2 ^ 30 := by
  induction t using CTree.ind with
  | h op n binds kids alts ih =>
    intro l hl
    cases h with
    | mk _ _ _ _ _ hb hk ha hfk =>
    rw [nodesT] at hl
    rcases List.mem_append.1 hl with hl | hl
    · have key : ∀ ks : List CTree, (∀ k ∈ ks, k ∈ kids) → ∀ l ∈ nodesTs ks, (l.binds ++ l.alts.flatMap (·.binds)).length < 2 ^ 30 := by
        intro ks
        induction ks with
        | nil => intro _ l hl; rw [nodesTs] at hl; cases hl
        | cons k ks ih2 =>
          intro hks l hl
          rw [nodesTs] at hl
          rcases List.mem_append.1 hl with hl | hl
          · exact ih k (hks k (by simp)) (hfk k (hks k (by simp))) l hl
          · exact ih2 (fun q hq => hks q (by simp [hq])) l hl
      exact key kids (fun k hk => hk) l hl
    · rw [List.mem_singleton.1 hl]
      exact hb
theorem ren_bound {t : CTree} (hf : TFit t) (hs : tsize t ≤ 4096) (a : Int) (ha : a ≤ 2 ^ 40) : (renF t ([], a)).2.2 < 2 ^ 50 := by
  have h1 := renF_next t ([], a)
  have h2 := sum_le ((nodesT t).map fun l => (l.binds ++ l.alts.flatMap (·.binds)).length) (2 ^ 30) fun x hx => by
    obtain ⟨l, hl, rfl⟩ := List.mem_map.1 hx
    exact Nat.le_of_lt (tfit_nodes t hf l hl)
  rw [List.length_map, nodes_len] at h2
  have h3 : tsize t * 2 ^ 30 ≤ 4096 * 2 ^ 30 := Nat.mul_le_mul_right _ hs
  dsimp only at h1
  omega
section
variable {L : Lib} (hC : CLib2 L)
include hC
theorem renew_ok (hP : MPrims L) (h160 : L.fns 160 = some fm160) (h171 : L.fns 171 = some fn171) (h207 : L.fns 207 = some fn207) (h208 : L.fns 208 = some fn208) (h140 : L.fns 140 = some fn140) (e : List CExpr) (hl : e.length < 2 ^ 30) (hf : ∀ x ∈ e, NodeFit x) (a : Int) (h : Heap) :
    pcall L 140 [.list (e.map encExpr) none, .int .i64 a] h = some (.val (.tuple [.list ((renewOf e a).1.map encExpr) none, .int .i64 (renewOf e a).2]), h) := by
  have hL := hC.plain
  have hp := hL.pure
  have hdE := data_Exprs e
  have hck := check_ok hC.toCLib e hl hf
  refine pcall_fn hL h140 (by simp only [isData, isDataL, data_Exprs, Bool.and_self]) ?_ h
  unfold renewOf
  by_cases hz : checkErr e = 0
  · rw [if_pos hz]
    obtain ⟨hT, hn, hdp, _⟩ := check_tree hz
    obtain ⟨hft, hsz⟩ := check_fit hz hf
    rw [hz] at hck
    obtain ⟨H, p, fp, g1, g2, g3, _⟩ := mgrow_ok hL hP h160 e hl hf hT []
    have hs4 : tsize (grow1 e) ≤ 4096 := by rw [tsize_grow e hT]; exact hn
    by_cases hr : a < 0 ∨ 1048576 < a
    · rw [if_pos hr]
      by_cases h0 : a < 0
      · unfold nptr at *
        unfold fn140
        simp -implicitDefEqProofs only [code_skip, code_ops, code_seq, code_cond, code_ret, ops_cons, ops_cons_g, ops_nil, aOp, opd, upd_at, initTm_at, stepVal, aBin, aInt, isShift, aWanted, endFn, aResults, aResult, tupled, wipe_list, wipe_int, wipeR_tuple, isData_list_none, isDataL_nil, isDataL_cons, beqTF, beq_self_eq_true, Option.getD_some, List.map_cons, List.map_nil, List.nil_append, List.append_nil, List.getElem?_cons_zero, List.getElem?_cons_succ, ↓reduceIte, Bool.and_true, Bool.not_true, Bool.false_eq_true, decide_true, and_self, reduceCtorEq, Nat.reduceEqDiff, onlyVal, outOf_val, hck, g1, h0, hdE, doCall_p L hp, hp, bne, List.map_nil]
      · have h1 : 1048576 < a := by omega
        unfold nptr at *
        unfold fn140
        simp -implicitDefEqProofs only [code_skip, code_ops, code_seq, code_cond, code_ret, ops_cons, ops_cons_g, ops_nil, aOp, opd, upd_at, initTm_at, stepVal, aBin, aInt, isShift, aWanted, endFn, aResults, aResult, tupled, wipe_list, wipe_int, wipeR_tuple, isData_list_none, isDataL_nil, isDataL_cons, beq_self_eq_true, Option.getD_some, List.map_cons, List.map_nil, List.nil_append, List.append_nil, List.getElem?_cons_zero, List.getElem?_cons_succ, ↓reduceIte, Bool.and_true, Bool.not_true, Bool.false_eq_true, decide_true, decide_false, and_self, reduceCtorEq, Nat.reduceEqDiff, gt_iff_lt, onlyVal, outOf_val, hck, g1, h0, h1, hdE, doCall_p L hp, hp, bne, List.map_nil]
    · rw [if_neg hr]
      have h0 : ¬ a < 0 := by omega
      have h1 : ¬ 1048576 < a := by omega
      obtain ⟨H', k1, k2⟩ := rename_ok hL h171 h207 h208 (grow1 e) hft H p fp g2 g3 a (by omega) (ren_bound hft hs4 a (by omega))
      by_cases h2 : 1048576 < (renF (grow1 e) ([], a)).2.2
      · rw [if_pos h2]
        generalize (renF (grow1 e) ([], a)).2.2 = q at *
        unfold nptr at *
        unfold fn140
        simp -implicitDefEqProofs only [code_skip, code_ops, code_seq, code_cond, code_ret, ops_cons, ops_cons_g, ops_nil, aOp, opd, upd_at, initTm_at, stepVal, aBin, aInt, isShift, aWanted, endFn, aResults, aResult, tupled, wipe_list, wipe_int, wipeR_tuple, isData_list_none, isDataL_nil, isDataL_cons, beq_self_eq_true, Option.getD_some, List.map_cons, List.map_nil, List.nil_append, List.append_nil, List.getElem?_cons_zero, List.getElem?_cons_succ, ↓reduceIte, Bool.and_true, Bool.not_true, Bool.false_eq_true, decide_true, decide_false, and_self, reduceCtorEq, Nat.reduceEqDiff, gt_iff_lt, onlyVal, outOf_val, hck, g1, k1, h0, h1, h2, hdE, doCall_p L hp, hp, bne, List.map_nil]
      · rw [if_neg h2]
        generalize hq : (renF (grow1 e) ([], a)).2.2 = q at *
        have hft' := renF_fit (grow1 e) hft ([], a)
        have hsz' := renF_size (grow1 e) ([], a)
        have hh' := renF_hgt (grow1 e) ([], a)
        have hv := k2.look (by omega)
        have hls := list_ok hL hC.prims hC.f187 hC.f159 (renF (grow1 e) ([], a)).1 hft' (by omega)
        generalize (renF (grow1 e) ([], a)).1 = t' at *
        have hdL := data_Exprs (listOf t')
        obtain ⟨tc, htc, hdt⟩ := enc_vptr t'
        rw [htc] at hv hls
        unfold nptr at *
        unfold fn140
        simp -implicitDefEqProofs only [code_skip, code_ops, code_seq, code_cond, code_ret, ops_cons, ops_cons_g, ops_nil, aOp, opd, upd_at, initTm_at, stepVal, aBin, aInt, isShift, aWanted, endFn, aResults, aResult, tupled, wipe_list, wipe_int, wipeR_tuple, wipe_vptr, isData_list_none, isData_vptr, isDataL_nil, isDataL_cons, beq_self_eq_true, Option.getD_some, List.map_cons, List.map_nil, List.nil_append, List.append_nil, List.getElem?_cons_zero, List.getElem?_cons_succ, ↓reduceIte, Bool.and_true, Bool.not_true, Bool.false_eq_true, decide_false, and_self, reduceCtorEq, Nat.reduceEqDiff, gt_iff_lt, code_view, onlyVal, outOf_val, hck, g1, k1, h0, h1, h2, hdE, doCall_p L hp, hp, bne, viewS_mk, hv, hls, hdt, hdL, wipe_vptr]
  · have hne : (checkErr e != 0) = true := by simpa using hz
    rw [if_neg hz]
    dsimp only
    generalize checkErr e = r at *
    unfold fn140
    simp -implicitDefEqProofs only [code_ops, code_seq, code_cond, code_ret, ops_cons, ops_nil, aOp, opd, upd_at, initTm_at, stepVal, aBin, aInt, isShift, endFn, aResults, aResult, tupled, wipe_list, wipe_int, wipeR_tuple, isData_list_none, isDataL_nil, isDataL_cons, Option.getD_some, List.map_cons, List.map_nil, List.getElem?_cons_zero, ↓reduceIte, Bool.and_true, Bool.false_eq_true, and_self, reduceCtorEq, Nat.reduceEqDiff, onlyVal, outOf_val, hck, hne, hdE, doCall_p L hp, hp, List.map_nil]
end
end Go.Abs
/-
  Identifiers given anew: the same expression, the numbers in order, closed if it was. Plain; no program in sight. Conditions: none.
-/
set_option linter.unusedVariables false
set_option linter.unusedSimpArgs false
set_option maxRecDepth 100000
namespace Go.Abs
theorem seqI_append (a : Int) (n m : Nat) : seqI a (n + m) = seqI a n ++ seqI (a + n) m := by
  unfold seqI
  rw [List.range_add, List.map_append, List.map_map]
  congr 1
  refine List.map_congr_left fun i _ => ?_
  simp only [Function.comp]
  omega
theorem seqI_cons (a : Int) (n : Nat) : seqI a (n + 1) = a :: seqI (a + 1) n := by
  rw [Nat.add_comm, seqI_append]
  show [a + ((0 : Nat) : Int)] ++ seqI (a + 1) n = _
  simp
theorem mem_seqI {a y : Int} {n : Nat} : y ∈ seqI a n ↔ a ≤ y ∧ y < a + n := by
  unfold seqI
  rw [List.mem_map]
  constructor
  · rintro ⟨i, hi, rfl⟩
    have := List.mem_range.1 hi
    omega
  · intro h
    exact ⟨(y - a).toNat, List.mem_range.2 (by omega), by omega⟩
theorem frL_zip (l : List Int) : ∀ s : RS, (frL l s).1 = putZip l (seqI s.2 l.length) s.1 := by
  induction l with
  | nil => intro s; rfl
  | cons v l ih =>
    intro s
    rw [frL_cons, ih, List.length_cons, seqI_cons]
    rfl
theorem frA_state (as : List CAlt) : ∀ s : RS, (frA as s).2 = frL (as.flatMap (·.binds)) s := by
  induction as with
  | nil => intro s; rfl
  | cons a as ih => intro s; rw [frA, List.flatMap_cons, frL_append]; exact ih _
theorem frA_binds (as : List CAlt) : ∀ s : RS, (frA as s).1.flatMap (·.binds) = seqI s.2 (as.flatMap (·.binds)).length := by
  induction as with
  | nil => intro s; rfl
  | cons a as ih =>
    intro s
    rw [frA, List.flatMap_cons, List.flatMap_cons, List.length_append, seqI_append, ih, frL_next]
/-- Where identifiers stand that bind nothing, none stand. -/
def BG (op : Int) (binds : List Int) : Prop := op ≠ 9 → opBinds op = false → binds = []
def nbOf (op : Int) (binds : List Int) : List Int := if opBinds op = true then binds else []
theorem binders_nb (op : Int) (binds : List Int) (as : List CAlt) : bindersOf op binds as = nbOf op binds ++ as.flatMap (·.binds) := rfl
theorem renBS_eq {op : Int} {binds : List Int} (h : BG op binds) (s : RS) : renBS op binds s = frL (nbOf op binds) s := by
  unfold renBS nbOf
  by_cases h9 : op = 9
  · subst h9
    rfl
  · rw [if_neg h9]
    cases ho : opBinds op with
    | true => rfl
    | false => rw [h h9 ho]; rfl
theorem ren_state {op : Int} {binds : List Int} (h : BG op binds) (as : List CAlt) (s : RS) : (frA as (renBS op binds s)).2 = frL (bindersOf op binds as) s := by
  rw [frA_state, renBS_eq h, binders_nb, frL_append]
theorem ren_binders {op : Int} {binds : List Int} (h : BG op binds) (as : List CAlt) (s : RS) : bindersOf op (renBs op binds s) (frA as (renBS op binds s)).1 = seqI s.2 (bindersOf op binds as).length := by
  rw [binders_nb, binders_nb, frA_binds, renBS_eq h, List.length_append, seqI_append, frL_next]
  congr 1
  unfold nbOf renBs
  cases ho : opBinds op with
  | true =>
    rw [if_pos rfl, if_pos rfl, if_neg]
    rintro rfl
    cases ho
  | false => rfl
inductive BGt : CTree → Prop
  | mk (op n : Int) (binds : List Int) (kids : List CTree) (alts : List CAlt) (hb : BG op binds) (h0 : op = 0 → kids = [] ∧ alts = []) (h : ∀ k ∈ kids, BGt k) : BGt (.mk op n binds kids alts)
/-! ### The same expression -/
theorem alts_same (as : List CAlt) (s : RS) : altsNe as (frA as s).1 = false := by
  unfold altsNe
  have key : ∀ (as cs : List CAlt) (s : RS) (pre : List CAlt), cs = pre ++ (frA as s).1 → findFrom (fun i a => if altNe cs i a = true then some () else none) as pre.length = none := by
    intro as
    induction as with
    | nil => intro cs s pre h; rfl
    | cons a as ih =>
      intro cs s pre h
      rw [findFrom]
      have h1 : altNe cs pre.length a = false := by
        unfold altNe
        rw [h, frA, List.getElem?_append_right (Nat.le_refl _), Nat.sub_self]
        simp [seqI_len]
      rw [h1]
      have := ih cs (frL a.binds s) (pre ++ [⟨a.tag, seqI s.2 a.binds.length⟩]) (by rw [h, frA]; simp)
      rw [List.length_append] at this
      exact this
  have := key as (frA as s).1 s [] rfl
  rw [List.length_nil] at this
  rw [this]
  rfl
theorem ren_same (t : CTree) (h : BGt t) : ∀ s : RS, sameF t (renF t s).1 s.1 = (true, (renF t s).2.1) := by
  induction t using CTree.ind with
  | h op n binds kids alts ih =>
    intro s
    cases h with
    | mk _ _ _ _ _ hb hz hk =>
    rw [renF, sameF, if_neg (by simp [renKs_len, frA_len, renBs_len])]
    by_cases h0 : op = 0
    · obtain ⟨k0, a0⟩ := hz h0
      subst k0
      subst a0
      subst h0
      rw [if_pos rfl, renKs, ren_state hb]
      have : bindersOf 0 binds [] = [] := rfl
      rw [this, frL_nil]
      unfold varSame renN
      cases findK n s.1 with
      | none => simp
      | some x => simp
    · rw [if_neg h0]
      have hn : renN op n s.1 = n := by
        unfold renN
        cases findK n s.1 with
        | none => rfl
        | some x => exact if_neg h0
      rw [hn, if_neg, if_neg (by rw [alts_same]; simp), ren_binders hb, ← frL_zip, ren_state hb]
      · generalize frL (bindersOf op binds alts) s = s2
        clear hb hz hn
        induction kids generalizing s2 with
        | nil => rw [renKs, sameKs]
        | cons k ks ih2 =>
          rw [renKs, sameKs, ih k (by simp) (hk k (by simp)) s2]
          exact ih2 (fun q hq => ih q (by simp [hq])) (fun q hq => hk q (by simp [hq])) _
      · rintro (h | ⟨h9, h⟩)
        · exact h rfl
        · refine h ?_
          unfold renBs
          rw [if_pos h9]
/-! ### The numbers in order -/
theorem ren_count (t : CTree) (h : BGt t) : ∀ s : RS, (renF t s).2.2 = s.2 + ((nodesT t).flatMap labBinds).length ∧ ((nodesT (renF t s).1).flatMap labBinds).Perm (seqI s.2 ((nodesT t).flatMap labBinds).length) := by
  induction t using CTree.ind with
  | h op n binds kids alts ih =>
    intro s
    cases h with
    | mk _ _ _ _ _ hb hz hk =>
    have key : ∀ (ks : List CTree), (∀ k ∈ ks, k ∈ kids) → ∀ s : RS, (renKs ks s).2.2 = s.2 + ((nodesTs ks).flatMap labBinds).length ∧ ((nodesTs (renKs ks s).1).flatMap labBinds).Perm (seqI s.2 ((nodesTs ks).flatMap labBinds).length) := by
      intro ks
      induction ks with
      | nil => intro _ s; rw [renKs, nodesTs]; exact ⟨by simp, List.Perm.refl _⟩
      | cons k ks ih2 =>
        intro hks s
        obtain ⟨a1, a2⟩ := ih k (hks k (by simp)) (hk k (hks k (by simp))) s
        obtain ⟨b1, b2⟩ := ih2 (fun q hq => hks q (by simp [hq])) (renF k s).2
        rw [renKs, nodesTs, nodesTs, List.flatMap_append, List.flatMap_append, List.length_append, seqI_append]
        refine ⟨?_, ?_⟩
        · show (renKs ks (renF k s).2).2.2 = _
          omega
        · rw [a1] at b2
          exact a2.append b2
    obtain ⟨c1, c2⟩ := key kids (fun k hk => hk) (frA alts (renBS op binds s)).2
    rw [renF, nodesT, nodesT, List.flatMap_append, List.flatMap_append, List.flatMap_cons, List.flatMap_cons, List.flatMap_nil, List.append_nil, List.append_nil, List.length_append]
    have e1 : labBinds ⟨op, n, binds, kids.map rootOp, alts⟩ = bindersOf op binds alts := rfl
    have e2 : ∀ ro, labBinds ⟨op, renN op n s.1, renBs op binds s, ro, (frA alts (renBS op binds s)).1⟩ = seqI s.2 (bindersOf op binds alts).length := fun ro => ren_binders hb alts s
    rw [e1, e2]
    rw [ren_state hb, frL_next] at c1
    rw [ren_state hb] at c2 ⊢
    rw [frL_next] at c2
    refine ⟨?_, ?_⟩
    · show (renKs kids (frL (bindersOf op binds alts) s)).2.2 = _
      omega
    · rw [Nat.add_comm, seqI_append]
      exact List.perm_append_comm.trans (List.Perm.append_left _ c2)
end Go.Abs
/-
  Identifiers given anew: what is free stays free, what is bound stays bound. Plain. Conditions: none.
-/
set_option linter.unusedVariables false
set_option linter.unusedSimpArgs false
set_option maxRecDepth 100000
namespace Go.Abs
theorem frL_out (x : Int) (l : List Int) : ∀ s : RS, x ∉ l → findK x (frL l s).1 = findK x s.1 := by
  induction l with
  | nil => intro s _; rfl
  | cons v l ih =>
    intro s h
    rw [frL_cons, ih _ (fun hm => h (by simp [hm])), findK_put, if_neg (fun e => h (by simp [e]))]
theorem frL_in (x : Int) (l : List Int) : ∀ s : RS, l.Nodup → x ∈ l → ∃ y, findK x (frL l s).1 = some y ∧ y ∈ seqI s.2 l.length := by
  induction l with
  | nil => intro s _ h; cases h
  | cons v l ih =>
    intro s hn h
    rw [frL_cons, List.length_cons, seqI_cons]
    rw [List.nodup_cons] at hn
    by_cases hx : x = v
    · subst hx
      exact ⟨s.2, by rw [frL_out x l _ hn.1, findK_put, if_pos rfl], by simp⟩
    · have hm : x ∈ l := by
        rcases List.mem_cons.1 h with h | h
        · exact absurd h hx
        · exact h
      obtain ⟨y, h1, h2⟩ := ih (putK v s.2 s.1, s.2 + 1) hn.2 hm
      exact ⟨y, h1, List.mem_cons_of_mem _ h2⟩
/-- What a tree binds. -/
def bindersT (t : CTree) : List Int := (nodesT t).flatMap labBinds
def bindersTs (ts : List CTree) : List Int := (nodesTs ts).flatMap labBinds
theorem bindersT_eq (op n : Int) (binds : List Int) (kids : List CTree) (alts : List CAlt) : bindersT (.mk op n binds kids alts) = bindersTs kids ++ bindersOf op binds alts := by
  unfold bindersT bindersTs
  rw [nodesT, List.flatMap_append, List.flatMap_cons, List.flatMap_nil, List.append_nil]
  rfl
theorem bindersTs_cons (k : CTree) (ks : List CTree) : bindersTs (k :: ks) = bindersT k ++ bindersTs ks := by
  unfold bindersT bindersTs
  rw [nodesTs, List.flatMap_append]
theorem bindersTs_sub {k : CTree} {ks : List CTree} (h : k ∈ ks) : (bindersT k).Sublist (bindersTs ks) := by
  induction ks with
  | nil => cases h
  | cons a ks ih =>
    rw [bindersTs_cons]
    rcases List.mem_cons.1 h with h | h
    · subst h; exact List.sublist_append_left _ _
    · exact (ih h).trans (List.sublist_append_right _ _)
theorem renF_out (x : Int) (t : CTree) (h : BGt t) : ∀ s : RS, x ∉ bindersT t → findK x (renF t s).2.1 = findK x s.1 := by
  induction t using CTree.ind with
  | h op n binds kids alts ih =>
    intro s hx
    cases h with
    | mk _ _ _ _ _ hb hz hk =>
    rw [bindersT_eq, List.mem_append] at hx
    rw [renF, ren_state hb]
    have key : ∀ ks : List CTree, (∀ k ∈ ks, k ∈ kids) → ∀ s : RS, x ∉ bindersTs ks → findK x (renKs ks s).2.1 = findK x s.1 := by
      intro ks
      induction ks with
      | nil => intro _ s _; rw [renKs]
      | cons k ks ih2 =>
        intro hks s hx
        rw [bindersTs_cons, List.mem_append] at hx
        rw [renKs]
        show findK x (renKs ks (renF k s).2).2.1 = _
        rw [ih2 (fun q hq => hks q (by simp [hq])) _ (fun h => hx (.inr h)), ih k (hks k (by simp)) (hk k (hks k (by simp))) s (fun h => hx (.inl h))]
    show findK x (renKs kids (frL (bindersOf op binds alts) s)).2.1 = _
    rw [key kids (fun k hk => hk) _ (fun h => hx (.inl h)), frL_out x _ s (fun h => hx (.inr h))]
theorem renKs_out (x : Int) (ks : List CTree) (h : ∀ k ∈ ks, BGt k) : ∀ s : RS, x ∉ bindersTs ks → findK x (renKs ks s).2.1 = findK x s.1 := by
  induction ks with
  | nil => intro s _; rw [renKs]
  | cons k ks ih =>
    intro s hx
    rw [bindersTs_cons, List.mem_append] at hx
    rw [renKs]
    show findK x (renKs ks (renF k s).2).2.1 = _
    rw [ih (fun q hq => h q (by simp [hq])) _ (fun h => hx (.inr h)), renF_out x k (h k (by simp)) s (fun h => hx (.inl h))]
theorem renKs_get : ∀ (ks : List CTree) (s : RS) (j : Nat) (hj : j < ks.length), (renKs ks s).1[j]'(by rw [renKs_len]; exact hj) = (renF ks[j] (renKs (ks.take j) s).2).1
  | [], s, j, hj => absurd hj (by simp)
  | k :: ks, s, 0, hj => by simp only [renKs, List.take_zero, List.getElem_cons_zero]
  | k :: ks, s, j + 1, hj => by
    have := renKs_get ks (renF k s).2 j (by simpa using hj)
    simp only [renKs, List.take_succ_cons, List.getElem_cons_succ]
    exact this
theorem bindersTs_take {x : Int} {ks : List CTree} (j : Nat) (h : x ∈ bindersTs (ks.take j)) : x ∈ bindersTs ks := by
  induction ks generalizing j with
  | nil => simpa using h
  | cons k ks ih =>
    cases j with
    | zero => rw [List.take_zero] at h; cases h
    | succ j =>
      rw [List.take_succ_cons, bindersTs_cons, List.mem_append] at h
      rw [bindersTs_cons, List.mem_append]
      exact h.imp id (ih j)
theorem bound_sub {op : Int} {binds : List Int} {alts : List CAlt} {j : Nat} {x : Int} (h : x ∈ boundOf op binds alts j) : x ∈ bindersOf op binds alts := by
  unfold boundOf at h
  rw [binders_nb, List.mem_append]
  split at h
  · rename_i ho
    refine .inl ?_
    unfold nbOf
    have : opBinds op = true := by
      unfold opBinds
      rcases ho with rfl | rfl | ⟨rfl, _⟩ <;> rfl
    rw [if_pos this]
    exact h
  · split at h
    · split at h
      · rename_i a ha
        exact .inr (List.mem_flatMap.2 ⟨a, List.mem_of_getElem? ha, h⟩)
      · cases h
    · cases h
theorem frA_get : ∀ (as : List CAlt) (s : RS) (j : Nat) (a : CAlt), as[j]? = some a → (frA as s).1[j]? = some ⟨a.tag, seqI (frA (as.take j) s).2.2 a.binds.length⟩
  | [], s, j, a, h => by simp at h
  | b :: as, s, 0, a, h => by
    simp at h
    subst h
    rw [frA, List.take_zero]
    rfl
  | b :: as, s, j + 1, a, h => by
    have := frA_get as (frL b.binds s) j a (by simpa using h)
    rw [frA, List.take_succ_cons, frA]
    simpa using this
/-- A bound identifier's new number is bound at the same place. -/
theorem bound_new {op : Int} {binds : List Int} (hb : BG op binds) (alts : List CAlt) (s : RS) (hn : (bindersOf op binds alts).Nodup) {j : Nat} {x : Int} (h : x ∈ boundOf op binds alts j) :
    ∃ y, findK x (frL (bindersOf op binds alts) s).1 = some y ∧ y ∈ boundOf op (renBs op binds s) (frA alts (renBS op binds s)).1 j := by
  rw [binders_nb] at hn ⊢
  rw [List.nodup_append] at hn
  obtain ⟨n1, n2, n3⟩ := hn
  unfold boundOf at h ⊢
  split at h
  · rename_i ho
    have hob : opBinds op = true := by
      unfold opBinds
      rcases ho with rfl | rfl | ⟨rfl, _⟩ <;> rfl
    have hnb : nbOf op binds = binds := by unfold nbOf; rw [if_pos hob]
    rw [hnb] at n1 n3 ⊢
    rw [if_pos ho, frL_append]
    obtain ⟨y, y1, y2⟩ := frL_in x binds s n1 h
    refine ⟨y, ?_, ?_⟩
    · rw [frL_out x _ _ (fun hm => n3 x h x hm rfl)]
      exact y1
    · unfold renBs
      rw [if_neg (by rintro rfl; cases hob)]
      exact y2
  · rename_i ho
    split at h
    · rename_i hj
      split at h
      · rename_i a ha
        rw [if_neg ho, if_pos hj, frA_get alts _ _ a ha]
        dsimp only
        obtain ⟨hlen, rfl⟩ := List.getElem?_eq_some_iff.1 ha
        have hsplit : alts.flatMap (·.binds) = (alts.take (j - 1)).flatMap (·.binds) ++ (alts[j - 1].binds ++ (alts.drop (j - 1 + 1)).flatMap (·.binds)) := by
          conv => lhs; rw [← List.take_append_drop (j - 1) alts, List.drop_eq_getElem_cons hlen]
          rw [List.flatMap_append, List.flatMap_cons]
        rw [hsplit] at n2 n3 ⊢
        rw [List.nodup_append] at n2
        obtain ⟨m1, m2, m3⟩ := n2
        rw [List.nodup_append] at m2
        obtain ⟨q1, q2, q3⟩ := m2
        rw [frL_append, frL_append, frL_append, frA_state, renBS_eq hb]
        obtain ⟨y, y1, y2⟩ := frL_in x alts[j - 1].binds (frL ((alts.take (j - 1)).flatMap (·.binds)) (frL (nbOf op binds) s)) q1 h
        refine ⟨y, ?_, y2⟩
        rw [frL_out x _ _ (fun hm => q3 x h x hm rfl)]
        exact y1
      · cases h
    · cases h
/-- Whatever is free in the new tree is the name of what was free. -/
theorem ren_free (t : CTree) (h : BGt t) : ∀ s : RS, (bindersT t).Nodup → (∀ x, FreeIn x t → x ∉ bindersT t) → ∀ y, FreeIn y (renF t s).1 → ∃ x, FreeIn x t ∧ y = (findK x s.1).getD x := by
  induction t using CTree.ind with
  | h op n binds kids alts ih =>
    intro s hn hD y hy
    cases h with
    | mk _ _ _ _ _ hb hz hk =>
    rw [bindersT_eq] at hn
    have hn' := hn
    rw [List.nodup_append] at hn
    obtain ⟨n1, n2, n3⟩ := hn
    rw [renF, FreeIn] at hy
    rcases hy with ⟨h0, hy⟩ | hy
    · refine ⟨n, by rw [FreeIn]; exact .inl ⟨h0, rfl⟩, ?_⟩
      rw [← hy]
      unfold renN
      cases findK n s.1 with
      | none => rfl
      | some x =>
        show (if op = 0 then x else n) = x
        exact if_pos h0
    · rw [freeInKs_iff] at hy
      obtain ⟨j, hj, h1, h2⟩ := hy
      have hj' : j < kids.length := by rw [renKs_len] at hj; exact hj
      rw [renKs_get _ _ _ hj'] at h1
      rw [Nat.zero_add] at h2
      have hmem := List.getElem_mem hj'
      have hsub := bindersTs_sub hmem
      have hD' : ∀ x, FreeIn x kids[j] → x ∉ bindersT kids[j] := by
        intro x hx hm
        by_cases hbd : x ∈ boundOf op binds alts j
        · exact n3 x (hsub.subset hm) x (bound_sub hbd) rfl
        · refine hD x ?_ ?_
          · rw [FreeIn, freeInKs_iff]
            exact .inr ⟨j, hj', hx, by rw [Nat.zero_add]; exact hbd⟩
          · rw [bindersT_eq]
            exact List.mem_append.2 (.inl (hsub.subset hm))
      obtain ⟨x, hx, hyx⟩ := ih kids[j] hmem (hk _ hmem) _ (n1.sublist hsub) hD' y h1
      have hout : x ∉ bindersTs kids := by
        intro hm
        by_cases hbd : x ∈ boundOf op binds alts j
        · exact n3 x hm x (bound_sub hbd) rfl
        · refine hD x ?_ ?_
          · rw [FreeIn, freeInKs_iff]
            exact .inr ⟨j, hj', hx, by rw [Nat.zero_add]; exact hbd⟩
          · rw [bindersT_eq]
            exact List.mem_append.2 (.inl hm)
      rw [renKs_out x (kids.take j) (fun k hkm => hk k (List.mem_of_mem_take hkm)) _ (fun hm => hout (bindersTs_take j hm)), ren_state hb] at hyx
      by_cases hbd : x ∈ boundOf op binds alts j
      · obtain ⟨z, z1, z2⟩ := bound_new hb alts s n2 hbd
        rw [z1] at hyx
        exact absurd (by rw [hyx]; exact z2) h2
      · have hfree : FreeIn x (.mk op n binds kids alts) := by
          rw [FreeIn, freeInKs_iff]
          exact .inr ⟨j, hj', hx, by rw [Nat.zero_add]; exact hbd⟩
        refine ⟨x, hfree, ?_⟩
        have := hD x hfree
        rw [bindersT_eq, List.mem_append] at this
        rw [hyx, frL_out x _ s (fun hm => this (.inr hm))]
theorem ren_closed {t : CTree} (h : BGt t) (hn : (bindersT t).Nodup) (hc : freeOf t = []) (a : Int) : freeOf (renF t ([], a)).1 = [] := by
  refine List.eq_nil_iff_forall_not_mem.2 fun y hy => ?_
  have hno : ∀ x, ¬ FreeIn x t := fun x hx => by
    have := (freeOf_mem t x).2 hx
    rw [hc] at this
    cases this
  obtain ⟨x, hx, _⟩ := ren_free t h ([], a) hn (fun x hx => absurd hx (hno x)) y ((freeOf_mem _ y).1 hy)
  exact hno x hx
end Go.Abs
