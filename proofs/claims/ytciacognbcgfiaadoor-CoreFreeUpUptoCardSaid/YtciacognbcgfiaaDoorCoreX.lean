/-
  PARTS OF A PROOF, joined: an abstract machine for quiet code, its evaluation, and what the seat's functions answer on it. Conditions: none.
-/
import Derived.Test.YtciacognbcgfiaaDoorCoreW
/-
  Free, Size and Cut, and the law CoreCut on the machine. Conditions: none.
-/
set_option linter.unusedVariables false
set_option linter.unusedSimpArgs false
set_option maxRecDepth 100000
set_option maxHeartbeats 4000000
namespace Go.Abs
theorem tsize_of {e : List CExpr} (h : checkErr e = 0) (n : Nat) (hn : n < e.length) : tsize (treeAt e n) ≤ 4096 ∧ hgt (treeAt e n) ≤ 400 := by
  have hT := (check_tree h).1
  have := tok_sub (tok_of h) (sub_at hT n hn)
  exact ⟨this.size, this.deep⟩
def freeAtI (e : List CExpr) (n : Int) : List Int × Int := if atErr e n = 0 then (freeOf (treeAt e n.toNat), 0) else ([], atErr e n)
theorem at_zero {e : List CExpr} {n : Int} (h : atErr e n = 0) : checkErr e = 0 ∧ 0 ≤ n ∧ n < e.length := by
  unfold atErr at h
  split at h
  · rename_i hz
    split at h
    · cases h
    · exact ⟨hz, by omega, by omega⟩
  · rename_i hz
    exact absurd h hz
section
variable {L : Lib} (hC : CLib2 L)
include hC
theorem freeAt_ok (h166 : L.fns 166 = some fn166) (h168 : L.fns 168 = some fn168) (hf135 : L.fns 135 = some fn135) (e : List CExpr) (hl : e.length < 2 ^ 30) (hf : ∀ x ∈ e, NodeFit x) (n : Int) (h : Heap) :
    pcall L 135 [.list (e.map encExpr) none, .int .i64 n] h = some (.val (.tuple [.list ((freeAtI e n).1.map encI) none, .int .i64 (freeAtI e n).2]), h) := by
  have hL := hC.plain
  have hp := hL.pure
  have hdE := data_Exprs e
  have hat := at_ok hC h166 e hl hf n
  refine pcall_fn hL hf135 (by simp only [isData, isDataL, data_Ints, Bool.and_self]) ?_ h
  unfold freeAtI
  by_cases hz : atErr e n = 0
  · obtain ⟨hck, n0, n1⟩ := at_zero hz
    obtain ⟨m, rfl⟩ : ∃ m : Nat, n = m := ⟨n.toNat, by omega⟩
    simp only [hz, if_true, Int.toNat_natCast] at hat ⊢
    obtain ⟨hT, hn, _, hlab, _⟩ := check_tree hck
    have hm : m < e.length := by omega
    have hft := tfit_node hck hf m hm
    obtain ⟨hs1, hs2⟩ := tsize_of hck m hm
    have hfl : (freeF (treeAt e m) ([], [])).2.length < 2 ^ 30 := by have := free_len (treeAt e m) ([], []); simp at this; omega
    have hb := below_ok hL h168 e hl hf hT.ahead m hm
    have hc := fun h => freeOf_ok hL hC.prims hC.f236 hC.f196 hC.f167 (treeAt e m) hft (by omega) hfl h
    obtain ⟨tc, htc, hdt⟩ := enc_vptr (treeAt e m)
    rw [htc] at hb hc
    unfold fn135
    simp -implicitDefEqProofs only [code_skip, code_ops, code_seq, code_cond, code_ret, ops_cons, ops_nil, aOp, opd, upd_at, initTm_at, stepVal, aBin, aInt, isShift, endFn, aResults, aResult, tupled, wipe_list, wipe_int, wipeR_tuple, wipe_vptr, isData_list_none, isData_int, isData_vptr, isDataL_nil, isDataL_cons, beq_self_eq_true, Option.getD_some, List.map_cons, List.map_nil, List.getElem?_cons_zero, List.getElem?_cons_succ, ↓reduceIte, Bool.and_true, Bool.not_true, Bool.false_eq_true, and_self, reduceCtorEq, Nat.reduceEqDiff, onlyVal, outOf_val, hat, hb, hc, hdE, hdt, wipe_vptr, data_Ints, doCall_p L hp, hp, bne]
  · have hne : (atErr e n != 0) = true := by simpa using hz
    rw [if_neg hz]
    dsimp only
    generalize atErr e n = r at *
    unfold fn135
    simp -implicitDefEqProofs only [code_ops, code_seq, code_cond, code_ret, ops_cons, ops_nil, aOp, opd, upd_at, initTm_at, stepVal, aBin, aInt, isShift, endFn, aResults, aResult, tupled, wipe_list, wipe_int, wipeR_tuple, isData_list_none, isData_int, isDataL_nil, isDataL_cons, Option.getD_some, List.map_cons, List.map_nil, List.getElem?_cons_zero, List.getElem?_cons_succ, ↓reduceIte, Bool.and_true, Bool.false_eq_true, and_self, reduceCtorEq, Nat.reduceEqDiff, onlyVal, outOf_val, hat, hne, hdE, doCall_p L hp, hp, List.map_nil]
end
end Go.Abs
/-
  What is free in a tree: membership, without the machine. Conditions: none.
-/
set_option linter.unusedVariables false
set_option linter.unusedSimpArgs false
set_option maxRecDepth 100000
namespace Go.Abs
mutual
/-- An identifier occurs freely in a tree. -/
def FreeIn (v : Int) : CTree → Prop
  | .mk op n binds kids alts => (op = 0 ∧ n = v) ∨ FreeInKs v op binds alts kids 0
def FreeInKs (v op : Int) (binds : List Int) (alts : List CAlt) : List CTree → Nat → Prop
  | [], _ => False
  | k :: ks, i => (FreeIn v k ∧ v ∉ boundOf op binds alts i) ∨ FreeInKs v op binds alts ks (i + 1)
end
theorem freeInKs_iff (v op : Int) (binds : List Int) (alts : List CAlt) : ∀ (ks : List CTree) (i : Nat), FreeInKs v op binds alts ks i ↔ ∃ j, ∃ hj : j < ks.length, FreeIn v ks[j] ∧ v ∉ boundOf op binds alts (i + j)
  | [], i => by rw [FreeInKs]; simp
  | k :: ks, i => by
    rw [FreeInKs, freeInKs_iff v op binds alts ks (i + 1)]
    constructor
    · rintro (h | ⟨j, hj, h⟩)
      · exact ⟨0, by simp, by simpa using h⟩
      · exact ⟨j + 1, by simpa using hj, by simpa [Nat.add_assoc, Nat.add_comm 1 j] using h⟩
    · rintro ⟨j, hj, h⟩
      cases j with
      | zero => exact .inl (by simpa using h)
      | succ j => exact .inr ⟨j, by simpa using hj, by simpa [Nat.add_assoc, Nat.add_comm 1 j] using h⟩
theorem findK_keys {β : Type} (v : Int) : ∀ m : IM β, (findK v m).isSome = true ↔ v ∈ keysOf m
  | [] => by simp [findK, keysOf]
  | p :: m => by
    unfold findK keysOf
    rw [List.map_cons, List.mem_cons]
    by_cases h : v = p.1
    · simp [h]
    · rw [if_neg h]
      have := findK_keys v m
      unfold keysOf at this
      rw [this]
      simp [h]
theorem keys_put {β : Type} (v w : Int) (b : β) (m : IM β) : v ∈ keysOf (putK w b m) ↔ v = w ∨ v ∈ keysOf m := by
  rw [← findK_keys, ← findK_keys, findK_put]
  by_cases h : v = w <;> simp [h]
theorem ins_keys {β : Type} (w : Int) (b : β) : ∀ m : IM β, (keysOf (insKI w b m)).Perm (w :: keysOf m)
  | [] => .refl _
  | p :: m => by
    unfold insKI
    split
    · exact .refl _
    · unfold keysOf
      rw [List.map_cons, List.map_cons]
      exact ((ins_keys w b m).cons p.1).trans (.swap _ _ _)
theorem set_keys {β : Type} (w : Int) (b : β) (m : IM β) : keysOf (setKI w b m) = keysOf m := by
  unfold setKI keysOf
  rw [List.map_map]
  refine List.map_congr_left fun p _ => ?_
  simp only [Function.comp]
  split
  · rename_i h; exact h
  · rfl
theorem put_nodup {β : Type} (w : Int) (b : β) (m : IM β) (h : (keysOf m).Nodup) : (keysOf (putK w b m)).Nodup := by
  unfold putK
  split
  · rw [set_keys]; exact h
  · rename_i hn
    refine (ins_keys w b m).nodup_iff.2 (List.nodup_cons.2 ⟨fun hm => hn ((findK_keys w m).2 hm), h⟩)
def NN (b : IM Int) : Prop := ∀ u, 0 ≤ bget u b
theorem NN.up {b : IM Int} (h : NN b) (l : List Int) : NN (l.foldl (incr 1) b) := by
  intro u
  rw [bget_incrs]
  have := h u
  unfold cntI
  omega
theorem up_zero {b : IM Int} (h : NN b) (l : List Int) (v : Int) : bget v (l.foldl (incr 1) b) = 0 ↔ bget v b = 0 ∧ v ∉ l := by
  rw [bget_incrs]
  have h1 := h v
  have h2 : (l.count v : Int) = 0 ↔ v ∉ l := by
    rw [← List.count_eq_zero (a := v)]
    omega
  unfold cntI
  constructor
  · intro hx
    exact ⟨by omega, h2.1 (by omega)⟩
  · rintro ⟨a, c⟩
    have := h2.2 c
    omega
mutual
theorem free_mem (v : Int) : ∀ (t : CTree) (s : FS), NN s.1 → (v ∈ keysOf (freeF t s).2 ↔ v ∈ keysOf s.2 ∨ (FreeIn v t ∧ bget v s.1 = 0))
  | .mk op n binds kids alts, s, hn => by
    rw [freeF, FreeIn]
    have h1 : (freeHere op n s).1 = s.1 := by unfold freeHere; split <;> rfl
    rw [frees_mem v op binds alts kids 0 _ (by rw [h1]; exact hn), h1]
    unfold freeHere
    split
    · rename_i h
      rw [keys_put]
      constructor
      · rintro ((rfl | a) | a)
        · exact .inr ⟨.inl ⟨h.1, rfl⟩, h.2⟩
        · exact .inl a
        · exact .inr ⟨.inr a.1, a.2⟩
      · rintro (a | ⟨⟨_, rfl⟩ | a, c⟩)
        · exact .inl (.inr a)
        · exact .inl (.inl rfl)
        · exact .inr ⟨a, c⟩
    · rename_i h
      constructor
      · rintro (a | a)
        · exact .inl a
        · exact .inr ⟨.inr a.1, a.2⟩
      · rintro (a | ⟨⟨h0, rfl⟩ | a, c⟩)
        · exact .inl a
        · exact absurd ⟨h0, c⟩ h
        · exact .inr ⟨a, c⟩
theorem frees_mem (v op : Int) (binds : List Int) (alts : List CAlt) : ∀ (ks : List CTree) (k : Nat) (s : FS), NN s.1 → (v ∈ keysOf (freeKs op binds alts ks k s).2 ↔ v ∈ keysOf s.2 ∨ (FreeInKs v op binds alts ks k ∧ bget v s.1 = 0))
  | [], k, s, hn => by rw [freeKs, FreeInKs]; simp
  | kid :: ks, k, s, hn => by
    rw [freeKs, FreeInKs]
    have hup := hn.up (boundOf op binds alts k)
    have hb : ∀ u, bget u ((boundOf op binds alts k).foldl (incr (-1)) (freeF kid ((boundOf op binds alts k).foldl (incr 1) s.1, s.2)).1) = bget u s.1 := by
      intro u
      rw [bget_incrs, free_same, bget_incrs]
      omega
    rw [frees_mem v op binds alts ks (k + 1) _ (fun u => by rw [hb u]; exact hn u)]
    dsimp only
    rw [hb v, free_mem v kid _ hup]
    dsimp only
    rw [up_zero hn]
    constructor
    · rintro ((a | ⟨a, c, d⟩) | ⟨a, c⟩)
      · exact .inl a
      · exact .inr ⟨.inl ⟨a, d⟩, c⟩
      · exact .inr ⟨.inr a, c⟩
    · rintro (a | ⟨⟨a, d⟩ | a, c⟩)
      · exact .inl (.inl a)
      · exact .inl (.inr ⟨a, c, d⟩)
      · exact .inr ⟨a, c⟩
end
mutual
theorem free_nodup : ∀ (t : CTree) (s : FS), (keysOf s.2).Nodup → (keysOf (freeF t s).2).Nodup
  | .mk op n binds kids alts, s, h => by
    rw [freeF]
    refine frees_nodup op binds alts kids 0 _ ?_
    unfold freeHere
    split
    · exact put_nodup _ _ _ h
    · exact h
theorem frees_nodup (op : Int) (binds : List Int) (alts : List CAlt) : ∀ (ks : List CTree) (k : Nat) (s : FS), (keysOf s.2).Nodup → (keysOf (freeKs op binds alts ks k s).2).Nodup
  | [], k, s, h => by rw [freeKs]; exact h
  | kid :: ks, k, s, h => by
    rw [freeKs]
    refine frees_nodup op binds alts ks (k + 1) _ ?_
    exact free_nodup kid _ h
end
theorem freeOf_mem (t : CTree) (v : Int) : v ∈ freeOf t ↔ FreeIn v t := by
  unfold freeOf
  rw [(sortInts_perm _).mem_iff, free_mem v t ([], []) (fun u => by simp [bget, findK])]
  simp [keysOf, bget, findK]
theorem freeOf_nodup (t : CTree) : (freeOf t).Nodup := by
  unfold freeOf
  exact (sortInts_perm _).nodup_iff.2 (free_nodup t ([], []) (by simp [keysOf]))
theorem freeOf_eq {t : CTree} {l : List Int} (hn : l.Nodup) (hm : ∀ v, v ∈ l ↔ FreeIn v t) : sortInts l = freeOf t := by
  refine sorted_eq (sortInts_sorted l) (sortInts_sorted _) ?_
  refine (sortInts_perm l).trans ?_
  refine (List.perm_ext_iff_of_nodup hn (freeOf_nodup t)).2 fun v => ?_
  rw [hm, freeOf_mem]
end Go.Abs
