/-
  The free identifiers of a tree: the walk. Conditions: none.
-/
import Derived.Test.YtciacognbcgfiaaDoorCoreK
set_option linter.unusedVariables false
set_option linter.unusedSimpArgs false
set_option maxRecDepth 100000
set_option maxHeartbeats 4000000
namespace Go.Abs
abbrev FS := IM Int × IM Unit
def bget (v : Int) (b : IM Int) : Int := (findK v b).getD 0
def incr (d : Int) (b : IM Int) (n : Int) : IM Int := putK n (bget n b + d) b
def freeHere (op n : Int) (s : FS) : FS := if op = 0 ∧ bget n s.1 = 0 then (s.1, putK n () s.2) else s
mutual
def freeF : CTree → FS → FS
  | .mk op n binds kids alts, s => freeKs op binds alts kids 0 (freeHere op n s)
def freeKs (op : Int) (binds : List Int) (alts : List CAlt) : List CTree → Nat → FS → FS
  | [], _, s => s
  | kid :: ks, k, s =>
    freeKs op binds alts ks (k + 1)
      ((boundOf op binds alts k).foldl (incr (-1)) (freeF kid ((boundOf op binds alts k).foldl (incr 1) s.1, s.2)).1, (freeF kid ((boundOf op binds alts k).foldl (incr 1) s.1, s.2)).2)
end
mutual
def hgt : CTree → Nat
  | .mk _ _ _ kids _ => hgts kids + 1
def hgts : List CTree → Nat
  | [] => 0
  | k :: ks => max (hgt k) (hgts ks)
end
theorem hgts_mem {k : CTree} {ks : List CTree} (h : k ∈ ks) : hgt k ≤ hgts ks := by
  induction ks with
  | nil => cases h
  | cons x xs ih =>
    unfold hgts
    rcases List.mem_cons.1 h with rfl | h
    · omega
    · have := ih h; omega
/-- The lists of a tree are not longer than any machine's. -/
inductive TFit : CTree → Prop
  | mk (op n : Int) (binds : List Int) (kids : List CTree) (alts : List CAlt) (hb : (binds ++ alts.flatMap (·.binds)).length < 2 ^ 30) (hk : kids.length < 2 ^ 30) (ha : alts.length < 2 ^ 30) (h : ∀ k ∈ kids, TFit k) : TFit (.mk op n binds kids alts)
theorem flat_len (alts : List CAlt) {a : CAlt} (h : a ∈ alts) : a.binds.length ≤ (alts.flatMap (·.binds)).length := by
  induction alts with
  | nil => cases h
  | cons x xs ih =>
    rw [List.flatMap_cons, List.length_append]
    rcases List.mem_cons.1 h with rfl | h
    · omega
    · have := ih h; omega
theorem bound_len (op : Int) (binds : List Int) (alts : List CAlt) (k : Nat) : (boundOf op binds alts k).length ≤ (binds ++ alts.flatMap (·.binds)).length := by
  unfold boundOf
  rw [List.length_append]
  split
  · omega
  · split
    · split
      · rename_i a ha
        have := flat_len alts (List.mem_of_getElem? ha)
        omega
      · simp
    · simp
theorem bget_put (v n x : Int) (b : IM Int) : bget v (putK n x b) = if v = n then x else bget v b := by
  unfold bget
  rw [findK_put]
  split <;> rfl
def MB (lo hi : Int) (b : IM Int) : Prop := ∀ v, lo ≤ bget v b ∧ bget v b ≤ hi
theorem MB.up {lo hi : Int} {b : IM Int} (h : MB lo hi b) (n : Int) : MB lo (hi + 1) (incr 1 b n) := by
  intro v
  unfold incr
  rw [bget_put]
  have h1 := h v
  have h2 := h n
  split <;> omega
theorem MB.down {lo hi : Int} {b : IM Int} (h : MB lo hi b) (n : Int) : MB (lo - 1) hi (incr (-1) b n) := by
  intro v
  unfold incr
  rw [bget_put]
  have h1 := h v
  have h2 := h n
  split <;> omega
theorem MB.ups {lo : Int} : ∀ (l : List Int) {hi : Int} {b : IM Int}, MB lo hi b → MB lo (hi + l.length) (l.foldl (incr 1) b)
  | [], hi, b, h => by simpa using h
  | n :: l, hi, b, h => by
    have := MB.ups l (h.up n)
    rw [List.foldl_cons, List.length_cons]
    rw [show hi + ((l.length + 1 : Nat) : Int) = hi + 1 + l.length by omega]
    exact this
/-- How often a number stands in a list. -/
def cntI (v : Int) (l : List Int) : Int := (l.count v : Int)
theorem bget_incrs (d v : Int) : ∀ (l : List Int) (b : IM Int), bget v (l.foldl (incr d) b) = bget v b + d * cntI v l
  | [], b => by simp [cntI]
  | n :: l, b => by
    rw [List.foldl_cons, bget_incrs d v l]
    unfold incr cntI
    rw [bget_put, List.count_cons]
    by_cases h : v = n
    · subst h
      simp
      rw [Int.mul_add]
      omega
    · have : (n == v) = false := by simpa using fun e => h e.symm
      simp [h, this]
mutual
theorem free_same (v : Int) : ∀ (t : CTree) (s : FS), bget v (freeF t s).1 = bget v s.1
  | .mk op n binds kids alts, s => by
    rw [freeF, free_sames v op binds alts kids]
    unfold freeHere
    split <;> rfl
theorem free_sames (v op : Int) (binds : List Int) (alts : List CAlt) : ∀ (ks : List CTree) (k : Nat) (s : FS), bget v (freeKs op binds alts ks k s).1 = bget v s.1
  | [], _, s => by rw [freeKs]
  | kid :: ks, k, s => by
    rw [freeKs, free_sames v op binds alts ks, bget_incrs, free_same v kid, bget_incrs]
    omega
end
abbrev encB : IM Int → List (AVal × AVal) := encK encI
theorem b_ids (b : IM Int) : idsO (.map (encB b)) = [] := ids_K _ (fun _ => rfl) b
theorem b_ren (ρ : Nat → Option Nat) (b : IM Int) : renO ρ (.map (encB b)) = .map (encB b) := ren_K _ (fun _ => rfl) ρ b
theorem lookI (h : Heap) (r : Nat) (v : Int) (m : IM Int) (hr : h[r]? = some (.map (encB m))) : aLookup h .int (.int .i64 0) false (.map (some r)) (.int .i64 v) = some (.int .i64 (bget v m)) := by
  rw [lookK encI h r _ false v m hr]
  unfold bget
  cases findK v m <;> rfl
theorem updI (h : Heap) (r : Nat) (v x : Int) (m : IM Int) (hr : h[r]? = some (.map (encB m))) : aMapUpdate h .int (.map (some r)) (.int .i64 v) (.int .i64 x) = some (h.set r (.map (encB (putK v x m)))) :=
  updK encI h r v x m rfl hr
section
variable {L : Lib} (hL : Plain L)
def f196a (A : AVal) (kid : CTree) (l : List Int) (K : List AVal) (n k : Nat) (o : IM Unit) (b : IM Int) (j : Nat) : St :=
  ⟨kt [0, 1, 2, 7, 8, 36, 37, 38, 46, 47, 48] [A, .map (some 0), .map (some 1), encTree kid, .list (l.map encI) none, .list K none, .int .i64 n, .int .i64 k, .list (l.map encI) none, .int .i64 l.length, .int .i64 j], [.map (encB b), .map (encU o)]⟩
def f196b (A : AVal) (kid : CTree) (l : List Int) (K : List AVal) (n k : Nat) (o : IM Unit) (b : IM Int) : St :=
  ⟨kt [0, 1, 2, 7, 8, 36, 37, 38] [A, .map (some 0), .map (some 1), encTree kid, .list (l.map encI) none, .list K none, .int .i64 n, .int .i64 k], [.map (encB b), .map (encU o)]⟩
theorem free_l0 (A : AVal) (hA : isData A = true) (kid : CTree) (l : List Int) (hl : l.length < 2 ^ 30) (K : List AVal) (hK : isDataL K = true) (n k : Nat) (o : IM Unit) (b : IM Int) (c : Int) (hc : 0 ≤ c) (hc2 : c + 2 ^ 30 < 2 ^ 62) (hb : MB 0 c b) :
    loopF L.pure (call L) 2 [0, 1, 2, 7, 8, 36, 37, 38, 46, 47, 48] [0, 1, 2, 7, 8, 36, 37, 38] 2 fn196_l0 (f196a A kid l K n k o b 0) = some (.normal, f196b A kid l K n k o (l.foldl (incr 1) b)) := by
  have hT := data_Tree kid
  refine (loopF_fold l (incr 1) (f196a A kid l K n k o) (f196b A kid l K n k o) (fun b j => MB 0 (c + (j : Nat)) b) b (by simpa using hb) ?_ ?_).2
  · intro j hj b hb
    obtain ⟨h1, h2, h3⟩ := round_c encI l hl j hj
    refine ⟨?_, by have := hb.up l[j]; rw [show c + ((j + 1 : Nat) : Int) = c + (j : Nat) + 1 by omega]; exact this⟩
    generalize l[j] = v at *
    have hv := hb v
    have w : IntKind.i64.wrap (bget v b + 1) = bget v b + 1 := wrap64 (by omega) (by omega)
    have hlk := fun (h : Heap) (hr : h[0]? = some (.map (encB b))) => lookI h 0 v b hr
    have hup := fun (h : Heap) (hr : h[0]? = some (.map (encB b))) => updI h 0 v (bget v b + 1) b hr
    unfold fn196_l0 f196a incr
    simp -implicitDefEqProofs only [code_skip, code_ops, code_seq, code_cond, code_block, ops_cons, ops_nil, aOp, opd, upd_at, upd_none, kt_cons, stepVal, stepHeap, aBin, aInt, aIndexList, isShift, aLoad1, acells_int, gc_mk, isTrim_cons, gcIds_mk, newIds_nil, newIds_cons, gcMap_at, posOf, ren, renC, idsV, idsC, isData_list_none, isData_int, isData_map, List.map_cons, List.map_nil, List.flatMap_cons, List.flatMap_nil, List.length_cons, List.length_nil, List.cons_append, List.nil_append, List.append_nil, List.getElem?_cons_zero, List.set_cons_zero, List.take_succ_cons, List.take_nil, List.not_mem_nil, ↓reduceIte, Bool.false_eq_true, and_true, not_false_eq_true, decide_true, decide_false, Nat.le_refl, reduceCtorEq, Nat.zero_add, Nat.reduceEqDiff, Nat.reduceAdd, Nat.reduceLT, Nat.reduceLeDiff, Int.toNat_natCast, Int.natCast_nonneg, roundF_eq, kt_nil, encI_eq, data_Ints, h1, h2, h3, hlk, hup, w, hA, hT, hK, b_ids, b_ren, twice_ids, twice_ren]
  · intro b _
    have h0 := append_c l.length
    unfold fn196_l0 f196a f196b
    simp -implicitDefEqProofs only [code_ops, code_seq, code_cond, code_exit, ops_cons, ops_nil, aOp, opd, upd_at, kt_cons, stepVal, aBin, aInt, isShift, gcE, gc_mk, isTrim_cons, gcIds_mk, newIds_nil, newIds_cons, gcMap_at, posOf, ren, renC, idsV, idsC, isData_list_none, isData_int, isData_map, List.map_cons, List.map_nil, List.flatMap_cons, List.flatMap_nil, List.length_cons, List.length_nil, List.cons_append, List.nil_append, List.append_nil, List.take_succ_cons, List.take_nil, List.not_mem_nil, ↓reduceIte, Bool.false_eq_true, and_true, not_false_eq_true, decide_false, Nat.le_refl, reduceCtorEq, Nat.zero_add, Nat.reduceEqDiff, Nat.reduceAdd, Nat.reduceLT, Nat.reduceLeDiff, roundF_eq, kt_nil, data_Ints, h0, hA, hT, hK, b_ids, b_ren, twice_ids, twice_ren]
def f196c (A : AVal) (l : List Int) (K : List AVal) (n k : Nat) (o : IM Unit) (b : IM Int) (j : Nat) : St :=
  ⟨kt [0, 1, 2, 36, 37, 38, 61, 62, 63] [A, .map (some 0), .map (some 1), .list K none, .int .i64 n, .int .i64 k, .list (l.map encI) none, .int .i64 l.length, .int .i64 j], [.map (encB b), .map (encU o)]⟩
def f196d (A : AVal) (K : List AVal) (n k : Nat) (o : IM Unit) (b : IM Int) : St :=
  ⟨kt [0, 1, 2, 36, 37, 38] [A, .map (some 0), .map (some 1), .list K none, .int .i64 n, .int .i64 k], [.map (encB b), .map (encU o)]⟩
theorem free_l1 (A : AVal) (hA : isData A = true) (l : List Int) (hl : l.length < 2 ^ 30) (K : List AVal) (hK : isDataL K = true) (n k : Nat) (o : IM Unit) (b : IM Int) (c : Int) (hc : 0 ≤ c) (hc2 : c < 2 ^ 62) (hb : MB 0 c b) :
    loopF L.pure (call L) 2 [0, 1, 2, 36, 37, 38, 61, 62, 63] [0, 1, 2, 36, 37, 38] 4 fn196_l1 (f196c A l K n k o b 0) = some (.normal, f196d A K n k o (l.foldl (incr (-1)) b)) := by
  refine (loopF_fold l (incr (-1)) (f196c A l K n k o) (f196d A K n k o) (fun b j => MB (-(j : Nat)) c b) b (by simpa using hb) ?_ ?_).2
  · intro j hj b hb
    obtain ⟨h1, h2, h3⟩ := round_c encI l hl j hj
    refine ⟨?_, by have := hb.down l[j]; rw [show -((j + 1 : Nat) : Int) = -(j : Nat) - 1 by omega]; exact this⟩
    generalize l[j] = v at *
    have hv := hb v
    have w : IntKind.i64.wrap (bget v b - 1) = bget v b + -1 := by rw [wrap64 (by omega) (by omega)]; rfl
    have hlk := fun (h : Heap) (hr : h[0]? = some (.map (encB b))) => lookI h 0 v b hr
    have hup := fun (h : Heap) (hr : h[0]? = some (.map (encB b))) => updI h 0 v (bget v b + -1) b hr
    unfold fn196_l1 f196c incr
    simp -implicitDefEqProofs only [code_skip, code_ops, code_seq, code_cond, code_block, ops_cons, ops_nil, aOp, opd, upd_at, upd_none, kt_cons, stepVal, stepHeap, aBin, aInt, aIndexList, isShift, aLoad1, acells_int, gc_mk, isTrim_cons, gcIds_mk, newIds_nil, newIds_cons, gcMap_at, posOf, ren, renC, idsV, idsC, isData_list_none, isData_int, isData_map, List.map_cons, List.map_nil, List.flatMap_cons, List.flatMap_nil, List.length_cons, List.length_nil, List.cons_append, List.nil_append, List.append_nil, List.getElem?_cons_zero, List.set_cons_zero, List.take_succ_cons, List.take_nil, List.not_mem_nil, ↓reduceIte, Bool.false_eq_true, and_true, not_false_eq_true, decide_true, decide_false, Nat.le_refl, reduceCtorEq, Nat.zero_add, Nat.reduceEqDiff, Nat.reduceAdd, Nat.reduceLT, Nat.reduceLeDiff, Int.toNat_natCast, Int.natCast_nonneg, roundF_eq, Int.reduceNeg, kt_nil, encI_eq, data_Ints, h1, h2, h3, hlk, hup, w, hA, hK, b_ids, b_ren, twice_ids, twice_ren]
  · intro b _
    have h0 := append_c l.length
    unfold fn196_l1 f196c f196d
    simp -implicitDefEqProofs only [code_ops, code_seq, code_cond, code_exit, ops_cons, ops_nil, aOp, opd, upd_at, kt_cons, stepVal, aBin, aInt, isShift, gcE, gc_mk, isTrim_cons, gcIds_mk, newIds_nil, newIds_cons, gcMap_at, posOf, ren, renC, idsV, idsC, isData_list_none, isData_int, isData_map, List.map_cons, List.map_nil, List.flatMap_cons, List.flatMap_nil, List.length_cons, List.length_nil, List.cons_append, List.nil_append, List.append_nil, List.take_succ_cons, List.take_nil, List.not_mem_nil, ↓reduceIte, Bool.false_eq_true, and_true, not_false_eq_true, decide_false, Nat.le_refl, reduceCtorEq, Nat.zero_add, Nat.reduceEqDiff, Nat.reduceAdd, Nat.reduceLT, Nat.reduceLeDiff, roundF_eq, kt_nil, h0, hA, hK, b_ids, b_ren, twice_ids, twice_ren]
def freeStep (op : Int) (binds : List Int) (alts : List CAlt) (k : Nat) (s : FS) (kid : CTree) : FS :=
  ((boundOf op binds alts k).foldl (incr (-1)) (freeF kid ((boundOf op binds alts k).foldl (incr 1) s.1, s.2)).1, (freeF kid ((boundOf op binds alts k).foldl (incr 1) s.1, s.2)).2)
theorem freeKs_fold (op : Int) (binds : List Int) (alts : List CAlt) : ∀ (ks : List CTree) (k : Nat) (s : FS), foldE (fun k s kid => (.ok (freeStep op binds alts k s kid) : Except Unit FS)) ks k s = .ok (freeKs op binds alts ks k s)
  | [], k, s => by rw [freeKs]; rfl
  | kid :: ks, k, s => by rw [foldE, freeKs]; exact freeKs_fold op binds alts ks (k + 1) _
theorem freeStep_same (op : Int) (binds : List Int) (alts : List CAlt) (k : Nat) (s : FS) (kid : CTree) (v : Int) : bget v (freeStep op binds alts k s kid).1 = bget v s.1 := by
  unfold freeStep
  dsimp only
  rw [bget_incrs, free_same v kid, bget_incrs]
  omega
include hL
theorem free_l2 (h236 : L.fns 236 = some fn236) (op n : Int) (binds : List Int) (kids : List CTree) (alts : List CAlt) (hb : (binds ++ alts.flatMap (·.binds)).length < 2 ^ 30) (hk : kids.length < 2 ^ 30) (ha : alts.length < 2 ^ 30)
    (c : Int) (hc : 0 ≤ c) (hc2 : c + 2 ^ 30 < 2 ^ 62) (s0 : FS) (hs0 : MB 0 c s0.1)
    (ih : ∀ kid ∈ kids, ∀ (b : IM Int) (o : IM Unit), MB 0 (c + 2 ^ 30) b → call L 196 [encTree kid, .map (some 0), .map (some 1)] [.map (encB b), .map (encU o)] = some (.val (.tuple []), [.map (encB (freeF kid (b, o)).1), .map (encU (freeF kid (b, o)).2)])) :
    loopF L.pure (call L) 2 [0, 1, 2, 36, 37, 38] [] 0 fn196_l2 (f196d (.vptr [.int .i64 op, .int .i64 n, .list (binds.map encI) none, .list (kids.map encTree) none, .list (alts.map encAlt) none] 0) (kids.map encTree) kids.length 0 s0.2 s0.1) =
      some (.normal, ⟨kt [] [], [.map (encB (freeKs op binds alts kids 0 s0).1), .map (encU (freeKs op binds alts kids 0 s0).2)]⟩) := by
  have hp := hL.pure
  have hA : isData (.vptr [.int .i64 op, .int .i64 n, .list (binds.map encI) none, .list (kids.map encTree) none, .list (alts.map encAlt) none] 0) = true := by
    simp only [isData, isDataL, data_Ints, data_Alts, data_Trees, Bool.and_self]
  have hK := data_Trees kids
  refine ((loopF_foldE kids (fun k s kid => (.ok (freeStep op binds alts k s kid) : Except Unit FS)) (fun s k => f196d (.vptr [.int .i64 op, .int .i64 n, .list (binds.map encI) none, .list (kids.map encTree) none, .list (alts.map encAlt) none] 0) (kids.map encTree) kids.length k s.2 s.1)
    (fun s => ⟨kt [] [], [.map (encB s.1), .map (encU s.2)]⟩) (fun _ _ => False) (fun s _ => MB 0 c s.1) s0 hs0 ?_ ?_ ?_).1 _ (freeKs_fold op binds alts kids 0 s0)).2
  · intro k hk' s s' hs hq
    injection hq with hq
    subst hq
    refine ⟨?_, fun v => by rw [freeStep_same]; exact hs v⟩
    obtain ⟨h1, h2, h3⟩ := round_c encTree kids hk k hk'
    have hbo := bound_ok hL h236 op n binds (.list (kids.map encTree) none) alts ha k (by omega)
    have hbl := bound_len op binds alts k
    have ihk := ih kids[k] (List.getElem_mem hk')
    unfold freeStep
    generalize kids[k] = kid at *
    have hT := data_Tree kid
    generalize boundOf op binds alts k = l at *
    have hl0 := free_l0 (L := L) _ hA kid l (by omega) (kids.map encTree) hK kids.length k s.2 s.1 c hc (by omega) hs
    have hup := MB.ups l hs
    have hup2 : MB 0 (c + 2 ^ 30) (l.foldl (incr 1) s.1) := fun v => ⟨(hup v).1, by have := (hup v).2; omega⟩
    have ihk := ihk (l.foldl (incr 1) s.1) s.2 hup2
    have hl1 := free_l1 (L := L) _ hA l (by omega) (kids.map encTree) hK kids.length k (freeF kid (l.foldl (incr 1) s.1, s.2)).2 (freeF kid (l.foldl (incr 1) s.1, s.2)).1 (c + 2 ^ 30) (by omega) (by omega)
      (fun v => by rw [free_same]; exact hup2 v)
    generalize freeF kid (l.foldl (incr 1) s.1, s.2) = r at *
    unfold f196a f196b at hl0
    unfold f196c f196d at hl1
    simp only [Int.natCast_zero] at hl0 hl1
    obtain ⟨tc, htc, hdt⟩ := enc_vptr kid
    rw [htc] at ihk hl0 h3 hT
    unfold fn196_l2 f196d
    simp -implicitDefEqProofs only [code_skip, code_ops, code_seq, code_cond, code_block, ops_cons, ops_nil, aOp, opd, upd_at, kt_cons, stepVal, aBin, aLen, aInt, aIndexList, isShift, aLoad1, acells_vptr, code_loopF, gc_mk, isTrim_cons, gcIds_mk, newIds_nil, newIds_cons, gcMap_at, posOf, ren, renC, idsV, idsC, wipe_int, wipe_vptr, wipe_map, isData_list_none, isData_int, isData_tuple, isData_vptr, isData_map, isDataL_nil, isDataL_cons, Option.getD_some, List.map_cons, List.map_nil, List.flatMap_cons, List.flatMap_nil, List.length_cons, List.length_nil, List.length_map, List.cons_append, List.nil_append, List.append_nil, List.getElem?_cons_zero, List.getElem?_cons_succ, List.take_succ_cons, List.take_nil, List.all_cons, List.all_nil, List.mem_cons, List.not_mem_nil, ↓reduceIte, Bool.and_true, Bool.and_false, Bool.false_eq_true, and_true, or_false, not_false_eq_true, decide_true, decide_false, and_self, Nat.le_refl, Nat.zero_le, reduceCtorEq, Nat.zero_add, Nat.reduceEqDiff, Nat.reduceAdd, Nat.reduceLT, Nat.reduceLeDiff, Int.toNat_natCast, Int.natCast_nonneg, roundF_eq, Int.reduceNeg, kt_nil, rCall_eq, rootsOf_eq, grow_eq, subHeap_eq, newOf_val, putBack_eq, pb_nil, pb_cons, backRes_val, data_Ints, data_Alts, h1, h2, h3, hbo, hl0, ihk, hl1, hK, hT, hdt, b_ids, b_ren, twice_ids, twice_ren, doCall_p L hp, hp, wipeR_vptr, List.range_succ, List.range_zero]
  · intro k hk' s e hs hq
    cases hq
  · intro s _
    have h0 := append_c kids.length
    unfold fn196_l2 f196d
    simp -implicitDefEqProofs only [code_ops, code_seq, code_cond, code_exit, ops_cons, ops_nil, aOp, opd, upd_at, kt_cons, stepVal, aBin, aInt, isShift, gcE, gc_mk, isTrim_nil, gcIds_mk, newIds_nil, gcMap_at, posOf, ren, renC, idsV, idsC, List.map_cons, List.map_nil, List.flatMap_cons, List.flatMap_nil, List.length_cons, List.length_nil, List.append_nil, List.take_succ_cons, List.take_nil, ↓reduceIte, Bool.false_eq_true, decide_false, Nat.le_refl, reduceCtorEq, Nat.zero_add, Nat.reduceEqDiff, Nat.reduceAdd, roundF_eq, kt_nil, h0, hK, b_ids, b_ren, twice_ids, twice_ren]
theorem free_ok (h236 : L.fns 236 = some fn236) (h196 : L.fns 196 = some fn196) : ∀ (t : CTree), TFit t → ∀ (c : Int) (b : IM Int) (o : IM Unit), 0 ≤ c → c + 2 ^ 30 * (hgt t : Int) < 2 ^ 62 → MB 0 c b →
    call L 196 [encTree t, .map (some 0), .map (some 1)] [.map (encB b), .map (encU o)] = some (.val (.tuple []), [.map (encB (freeF t (b, o)).1), .map (encU (freeF t (b, o)).2)]) := by
  have hs : L.summ 196 = none := hL.summ 196 (by rw [h196]; exact fun hx => by cases hx)
  intro t
  induction t using CTree.ind with
  | h op n binds kids alts ih =>
    intro hf c b o hc hc2 hb
    cases hf with
    | mk _ _ _ _ _ hbf hkf haf hfk =>
      rw [hgt] at hc2
      have hloop := free_l2 hL h236 op n binds kids alts hbf hkf haf c hc (by omega) (freeHere op n (b, o)) (by unfold freeHere; split <;> exact hb) (by
        intro kid hkid b' o' hb'
        have hh := hgts_mem hkid
        exact ih kid hkid (hfk kid hkid) (c + 2 ^ 30) b' o' (by omega) (by omega) hb')
      rw [freeF]
      refine call_of hs h196 ?_
      rw [encTree_eq]
      have hK := data_Trees kids
      unfold f196d at hloop
      simp only [Int.natCast_zero] at hloop
      have hlk := fun (h : Heap) (hr : h[0]? = some (.map (encB b))) => lookI h 0 n b hr
      have hup := fun (h : Heap) (hr : h[1]? = some (.map (encU o))) => updK (fun _ : Unit => AVal.agg []) h 1 n () o rfl hr
      unfold freeHere at hloop ⊢
      by_cases h0 : op = 0
      · subst h0
        by_cases hz : bget n b = 0
        · rw [if_pos ⟨rfl, hz⟩] at hloop ⊢
          dsimp only at hloop
          unfold fn196
          simp -implicitDefEqProofs only [code_ops, code_seq, code_cond, ops_cons, ops_cons_g, ops_nil, aOp, opd, upd_at, upd_none, initTm_at, stepVal, stepHeap, aBin, aLen, aInt, isShift, aWanted, aLoad1, aField, fillA, endFn, aResults, tupled, code_loopF, gc_mk, isTrim_cons, gcIds_mk, newIds_nil, newIds_cons, gcMap_at, posOf, ren, renC, idsV, idsC, isData_list_none, isData_int, isData_vptr, isData_map, isDataL_nil, isDataL_cons, beq_self_eq_true, Option.map_some, Option.getD_some, List.map_cons, List.map_nil, List.flatMap_cons, List.flatMap_nil, List.length_cons, List.length_nil, List.length_map, List.cons_append, List.nil_append, List.append_nil, List.getElem?_cons_zero, List.getElem?_cons_succ, List.set_cons_zero, List.set_cons_succ, List.take_succ_cons, List.take_nil, List.not_mem_nil, ↓reduceIte, Bool.and_true, Bool.false_eq_true, and_true, not_false_eq_true, decide_false, Nat.le_refl, reduceCtorEq, Nat.add_zero, Nat.zero_add, Nat.reduceEqDiff, Nat.reduceAdd, Nat.reduceLT, Nat.reduceLeDiff, data_Ints, data_Alts, hlk, hup, hz, hloop, hK, b_ids, b_ren, twice_ids, twice_ren]
        · have hz' : (bget n b == 0) = false := by simpa using hz
          rw [if_neg (fun h => hz h.2)] at hloop ⊢
          dsimp only at hloop
          unfold fn196
          simp -implicitDefEqProofs only [code_skip, code_ops, code_seq, code_cond, ops_cons, ops_cons_g, ops_nil, aOp, opd, upd_at, initTm_at, stepVal, aBin, aLen, aInt, isShift, aWanted, aLoad1, aField, endFn, aResults, tupled, code_loopF, gc_mk, isTrim_cons, gcIds_mk, newIds_nil, newIds_cons, gcMap_at, posOf, ren, renC, idsV, idsC, isData_list_none, isData_int, isData_vptr, isData_map, isDataL_nil, isDataL_cons, beq_self_eq_true, Option.getD_some, List.map_cons, List.map_nil, List.flatMap_cons, List.flatMap_nil, List.length_cons, List.length_nil, List.length_map, List.cons_append, List.nil_append, List.append_nil, List.getElem?_cons_zero, List.getElem?_cons_succ, List.take_succ_cons, List.take_nil, List.not_mem_nil, ↓reduceIte, Bool.and_true, Bool.false_eq_true, and_true, not_false_eq_true, decide_false, Nat.le_refl, reduceCtorEq, Nat.add_zero, Nat.zero_add, Nat.reduceEqDiff, Nat.reduceAdd, Nat.reduceLT, Nat.reduceLeDiff, data_Ints, data_Alts, hlk, hz', hloop, hK, b_ids, b_ren, twice_ids, twice_ren]
      · have h0' : (op == 0) = false := by simpa using h0
        rw [if_neg (fun h => h0 h.1)] at hloop ⊢
        dsimp only at hloop
        unfold fn196
        simp -implicitDefEqProofs only [code_skip, code_ops, code_seq, code_cond, ops_cons, ops_cons_g, ops_nil, aOp, opd, upd_at, initTm_at, stepVal, aBin, aLen, aInt, isShift, aWanted, aLoad1, aField, endFn, aResults, tupled, code_loopF, gc_mk, isTrim_cons, gcIds_mk, newIds_nil, newIds_cons, gcMap_at, posOf, ren, renC, idsV, idsC, isData_list_none, isData_int, isData_vptr, isData_map, isDataL_nil, isDataL_cons, beqFT, Option.getD_some, List.map_cons, List.map_nil, List.flatMap_cons, List.flatMap_nil, List.length_cons, List.length_nil, List.length_map, List.cons_append, List.nil_append, List.append_nil, List.getElem?_cons_zero, List.getElem?_cons_succ, List.take_succ_cons, List.take_nil, List.not_mem_nil, ↓reduceIte, Bool.and_true, Bool.false_eq_true, and_true, not_false_eq_true, decide_false, Nat.le_refl, reduceCtorEq, Nat.add_zero, Nat.zero_add, Nat.reduceEqDiff, Nat.reduceAdd, Nat.reduceLT, Nat.reduceLeDiff, data_Ints, data_Alts, h0', hloop, hK, b_ids, b_ren, twice_ids, twice_ren]
end
end Go.Abs
