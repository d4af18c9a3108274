/-
  PARTS OF A PROOF, joined: an abstract machine for quiet code, its evaluation, and what the seat's functions answer on it. Conditions: none.
-/
import Derived.Test.YtciacognbcgfiaaDoorPurC
import Derived.Test.YtciacognbcgfiaaDoorNodeB
/-
  The effects of all nodes, on the machine. Conditions: none.
-/
set_option linter.unusedVariables false
set_option linter.unusedSimpArgs false
set_option maxRecDepth 100000
set_option maxHeartbeats 4000000
namespace Go.Abs
structure PLib (L : Lib) : Prop where
  f144 : L.fns 144 = some fn144
  f173 : L.fns 173 = some fn173
  f209 : L.fns 209 = some fn209
  f210 : L.fns 210 = some fn210
  f211 : L.fns 211 = some fn211
  f243 : L.fns 243 = some fn243
theorem shape_kids {op n : Int} {bl kl : Nat} {as : List CAlt} (h : shapeOk op n bl kl as = true) : (op = 2 → kl = 1) ∧ ((op = 8 ∨ op = 3 ∨ op = 7 ∨ op = 10 ∨ op = 11) → 0 < kl) ∧ (op = 8 → ¬ (n = 7 ∨ n = 9) → 1 < kl) := by
  by_cases ho : op = 7 ∨ op = 13
  · have := (shape_case h).1 ho
    exact ⟨fun h2 => by omega, fun _ => by omega, fun h8 => by omega⟩
  · unfold shapeOk at h
    rw [if_neg ho] at h
    split at h
    · cases h
    · rename_i r hr
      unfold shapeEnd at h
      simp only [Bool.and_eq_true, beq_iff_eq] at h
      have hk := h.1.1.1
      unfold kbu at hr
      refine ⟨fun h2 => ?_, fun hh => ?_, fun h8 hn => ?_⟩
      · subst h2
        simp at hr
        rw [← hr] at hk
        simp at hk
        omega
      · rcases hh with rfl | rfl | rfl | rfl | rfl
        · simp only [show ¬((8 : Int) = 0 ∨ (8 : Int) = 1 ∨ (8 : Int) = 17) by omega, show ¬(8 : Int) = 2 by omega, show ¬(8 : Int) = 3 by omega, show ¬(8 : Int) = 4 by omega, show ¬(8 : Int) = 5 by omega, show ¬(8 : Int) = 6 by omega, if_true, if_false] at hr
          split at hr
          · injection hr with hr
            rw [← hr] at hk
            dsimp only at hk
            unfold arityOf at hk
            split at hk
            · omega
            · split at hk <;> omega
          · cases hr
        · simp at hr
          rw [← hr] at hk
          dsimp only at hk
          omega
        · omega
        · simp at hr
          rw [← hr] at hk
          simp at hk
          omega
        · simp at hr
          rw [← hr] at hk
          simp at hk
          omega
      · subst h8
        simp only [show ¬((8 : Int) = 0 ∨ (8 : Int) = 1 ∨ (8 : Int) = 17) by omega, show ¬(8 : Int) = 2 by omega, show ¬(8 : Int) = 3 by omega, show ¬(8 : Int) = 4 by omega, show ¬(8 : Int) = 5 by omega, show ¬(8 : Int) = 6 by omega, if_true, if_false] at hr
        split at hr
        · injection hr with hr
          rw [← hr] at hk
          dsimp only at hk
          unfold arityOf at hk
          rw [if_neg hn] at hk
          split at hk <;> omega
        · cases hr
theorem exprAt_eq {e : List CExpr} {k : Int} (h : k.toNat < e.length) : exprAt e k = e[k.toNat] := by
  unfold exprAt
  rw [List.getElem?_eq_getElem h]
  rfl
theorem effAll_snoc (e l : List CExpr) (x : CExpr) (acc : List Nat) : effAll e (l ++ [x]) acc = effAll e l acc ++ [effOf e (effAll e l acc) x] := by
  unfold effAll
  rw [List.foldl_append]
  rfl
theorem effAll_len (e : List CExpr) : ∀ (l : List CExpr) (acc : List Nat), (effAll e l acc).length = acc.length + l.length
  | [], acc => rfl
  | x :: l, acc => by
    unfold effAll
    rw [List.foldl_cons]
    have := effAll_len e l (acc ++ [effOf e acc x])
    unfold effAll at this
    rw [this]
    simp
    omega
theorem kidEff_lt (e : List CExpr) (acc : List Nat) (hacc : ∀ a ∈ acc, a < 64) (x : CExpr) (k v : Nat) (hv : v < 64) (kid : Int) : kidEff e acc x k v kid < 64 := by
  have hget64 : ∀ m, acc.getD m 0 < 64 := by
    intro m
    rw [List.getD_eq_getElem?_getD]
    cases h : acc[m]? with
    | none => simp
    | some a => simpa using hacc a (List.mem_of_getElem? h)
  unfold kidEff
  split
  · exact hv
  · split <;> exact Nat.or_lt_two_pow (n := 6) hv (hget64 _)
theorem kidsEff_lt (e : List CExpr) (acc : List Nat) (hacc : ∀ a ∈ acc, a < 64) (x : CExpr) : ∀ (ks : List Int) (k v : Nat), v < 64 → kidsEff e acc x ks k v < 64
  | [], _, v, hv => hv
  | kid :: ks, k, v, hv => kidsEff_lt e acc hacc x ks (k + 1) _ (kidEff_lt e acc hacc x k v hv kid)
theorem effAll_lt (e : List CExpr) : ∀ (l : List CExpr) (acc : List Nat), (∀ a ∈ acc, a < 64) → ∀ a ∈ effAll e l acc, a < 64
  | [], acc, h => h
  | x :: l, acc, h => by
    unfold effAll
    rw [List.foldl_cons]
    have := effAll_lt e l (acc ++ [effOf e acc x]) (fun a ha => by
      rcases List.mem_append.1 ha with ha | ha
      · exact h a ha
      · rw [List.mem_singleton.1 ha]
        exact kidsEff_lt e acc h x _ 0 _ (own_lt _ _ _ _))
    exact this
def cellsE (e : List CExpr) (i : Nat) : List AVal := (effAll e (e.take i) []).map encN ++ List.replicate (e.length - i) (encN 0)
theorem cellsE_at (e : List CExpr) (i : Nat) (hi : i < e.length) : cellsE e i = cellsN (effAll e (e.take i) []) 0 (e.length - i - 1) := by
  unfold cellsE cellsN
  rw [show e.length - i = (e.length - i - 1) + 1 by omega, List.replicate_succ]
  rfl
theorem cellsE_next (e : List CExpr) (i : Nat) (hi : i < e.length) : cellsE e (i + 1) = cellsN (effAll e (e.take i) []) (effOf e (effAll e (e.take i) []) e[i]) (e.length - i - 1) := by
  unfold cellsE cellsN
  rw [List.take_succ_eq_append_getElem hi, effAll_snoc, List.map_append, List.append_assoc, show e.length - (i + 1) = e.length - i - 1 by omega]
  rfl
theorem data_cellsN (acc : List Nat) (v z : Nat) : isDataL (cellsN acc v z) = true := by
  unfold cellsN
  rw [isDataL_append, isDataL_map encN (fun _ => rfl) acc, isDataL]
  have : isDataL (List.replicate z (encN 0)) = true := by
    induction z with
    | zero => rfl
    | succ z ih => rw [List.replicate_succ, isDataL, ih]; rfl
  rw [this]
  rfl
section
variable {L : Lib} (hC : CLib2 L) (hP : PLib L)
include hC hP
theorem pur_l2 (e : List CExpr) (hl : e.length < 2 ^ 30) (hf : ∀ x ∈ e, NodeFit x) (hz : checkErr e = 0) :
    loopF L.pure (call L) 1 [0, 5, 21, 22, 23] [5] 0 fn144_l2 ⟨kt [0, 5, 21, 22, 23] [.list (e.map encExpr) none, .vec 0 e.length, .list (e.map encExpr) none, .int .i64 e.length, .int .i64 ((0 : Nat) : Int)], [.vec (cellsE e 0) 1]⟩ =
      some (.normal, ⟨kt [5] [.vec 0 e.length], [.vec (cellsE e e.length) 1]⟩) := by
  have hL := hC.plain
  have hp := hL.pure
  have hdE := data_Exprs e
  obtain ⟨hT, hn4, _, hlab, _⟩ := check_tree hz
  refine loopF_count (fun i => ⟨kt [0, 5, 21, 22, 23] [.list (e.map encExpr) none, .vec 0 e.length, .list (e.map encExpr) none, .int .i64 e.length, .int .i64 (i : Int)], [.vec (cellsE e i) 1]⟩) e.length ?_ ?_
  · intro i hi
    obtain ⟨h1, h2, h3⟩ := round_c encExpr e hl i hi
    have hx := hf e[i] (List.getElem_mem hi)
    have hs := lab_shape (hlab e[i] (List.getElem_mem hi))
    unfold labX at hs
    dsimp only at hs
    rw [List.length_map] at hs
    obtain ⟨s1, s2, s3⟩ := shape_kids hs
    have hkl := kids_le e hT e[i] (List.getElem_mem hi)
    have hacl : (effAll e (e.take i) []).length = i := by rw [effAll_len]; simp; omega
    have hac64 := effAll_lt e (e.take i) [] (by simp)
    have hkid : ∀ k ∈ e[i].kids, 0 ≤ k ∧ k.toNat < i ∧ k.toNat < e.length ∧ ((exprAt e k).op = 2 → ∃ k0, (exprAt e k).kids[0]? = some k0 ∧ 0 ≤ k0 ∧ k0.toNat < i) := by
      intro k hk
      have ha := hT.ahead i hi k hk
      refine ⟨ha.1, by omega, by omega, fun h2 => ?_⟩
      have hkn : k.toNat < e.length := by omega
      have hex := exprAt_eq hkn
      rw [hex] at h2 ⊢
      have hs2 := lab_shape (hlab e[k.toNat] (List.getElem_mem hkn))
      unfold labX at hs2
      dsimp only at hs2
      rw [List.length_map] at hs2
      have := (shape_kids hs2).1 h2
      have h0 : 0 < e[k.toNat].kids.length := by omega
      refine ⟨e[k.toNat].kids[0], List.getElem?_eq_getElem h0, ?_⟩
      have := hT.ahead k.toNat hkn _ (List.getElem_mem h0)
      omega
    have hl0 := pur_l0 (L := L) e i e[i] (by omega) (fun k hk => ⟨(hkid k hk).1, (hkid k hk).2.2.1⟩) e.length (.vec (cellsN (effAll e (e.take i) []) 0 (e.length - i - 1)) 1)
    obtain ⟨R, hR⟩ := hp_tail e e[i] e[i].kids.length
    have hlook := look_node e e[i] (.vec (cellsN (effAll e (e.take i) []) 0 (e.length - i - 1)) 1)
    rw [hR] at hlook
    have hkb : (tBinds (kid0 (e[i].kids.map fun k => leafOf (exprAt e k)))).length < 2 ^ 30 := by
      unfold kid0
      cases hq : e[i].kids with
      | nil => simp [CTree.none, tBinds]
      | cons k ks =>
        have hkm := hkid k (by rw [hq]; simp)
        obtain ⟨_, _, hkn, _⟩ := hkm
        have hex := exprAt_eq hkn
        have := (hf e[k.toNat] (List.getElem_mem _)).binds
        simp only [List.map_cons, List.getD_cons_zero]
        unfold leafOf tBinds
        rw [hex]
        exact this
    have hown := own_ok hC hP.f243 hP.f209 hP.f210 hP.f211 hP.f173 e[i].op e[i].n e[i].binds (e[i].kids.map fun k => leafOf (exprAt e k)) e[i].alts (by rw [List.length_map]; omega) hx.alts hkb
      ⟨fun h => by rw [List.length_map]; exact s2 h, fun h8 hn => by rw [List.length_map]; exact s3 h8 hn⟩
    have hv : vCall (call L) 173 [.ptr (some (2, 0))] (.vec (cellsN (effAll e (e.take i) []) 0 (e.length - i - 1)) 1 :: tboxK e[i] (.list (e[i].kids.map encI) none) :: R) =
        some (.val (.int .i64 (ownEff e[i].op e[i].n (e[i].kids.map fun k => leafOf (exprAt e k)) e[i].alts)), .vec (cellsN (effAll e (e.take i) []) 0 (e.length - i - 1)) 1 :: tboxK e[i] (.list (e[i].kids.map encI) none) :: R) := by
      refine vCall_pcall (args' := [encTree (nodeOf e e[i])]) ?_ ?_ rfl (hown _)
      · simp only [List.map_cons, List.map_nil, hlook]
      · rw [isDataL, isDataL, data_Tree]; rfl
    have hown64 := own_lt e[i].op e[i].n (e[i].kids.map fun k => leafOf (exprAt e k)) e[i].alts
    obtain ⟨_, hl1⟩ := pur_l1 (L := L) e i e[i] (R.length + 1 + 1) (by omega) hx.binds e.length (effAll e (e.take i) []) (e.length - i - 1) (by omega) hacl hac64 hkid R _ hown64
    have hput := cellsN_put (effAll e (e.take i) []) 0 (ownEff e[i].op e[i].n (e[i].kids.map fun k => leafOf (exprAt e k)) e[i].alts) (e.length - i - 1)
    rw [hacl] at hput
    have hclen := cellsN_len (effAll e (e.take i) []) 0 (e.length - i - 1)
    have hle : i + 1 ≤ (cellsN (effAll e (e.take i) []) 0 (e.length - i - 1)).length := by omega
    rw [cellsE_at e i hi, cellsE_next e i hi]
    have hR0 : hp144 e e[i] (.vec (cellsN (effAll e (e.take i) []) 0 (e.length - i - 1)) 1) 0 = [.vec (cellsN (effAll e (e.take i) []) 0 (e.length - i - 1)) 1, tboxK e[i] (.list (e[i].kids.map encI) none), tboxK e[i] (.list [] (some none))] := rfl
    unfold s144 t144 at hl0
    rw [hR0, hR] at hl0
    unfold s144b t144b at hl1
    simp only [Int.natCast_zero] at hl0 hl1
    have hid := ids_data (data_cellsN (effAll e (e.take i) []) 0 (e.length - i - 1))
    have hre := fun ρ => ren_data ρ (data_cellsN (effAll e (e.take i) []) 0 (e.length - i - 1))
    have hid' := ids_data (data_cellsN (effAll e (e.take i) []) (effOf e (effAll e (e.take i) []) e[i]) (e.length - i - 1))
    have hre' := fun ρ => ren_data ρ (data_cellsN (effAll e (e.take i) []) (effOf e (effAll e (e.take i) []) e[i]) (e.length - i - 1))
    have heff : kidsEff e (effAll e (e.take i) []) e[i] e[i].kids 0 (ownEff e[i].op e[i].n (e[i].kids.map fun k => leafOf (exprAt e k)) e[i].alts) = effOf e (effAll e (e.take i) []) e[i] := rfl
    rw [heff] at hl1
    have hiN : (i : Int) < e.length := by omega
    have h1le : 1 ≤ R.length + 1 + 1 := by omega
    generalize effOf e (effAll e (e.take i) []) e[i] = w at *
    generalize ownEff e[i].op e[i].n (e[i].kids.map fun k => leafOf (exprAt e k)) e[i].alts = v at *
    generalize effAll e (e.take i) [] = acc at *
    generalize e.length - i - 1 = zz at *
    clear hx hs hkl hkid hlook hkb hown hR hR0 s1 s2 s3 heff
    generalize e[i] = x at *
    generalize cellsN acc 0 zz = c0 at *
    generalize cellsN acc v zz = c1 at *
    generalize cellsN acc w zz = c2 at *
    unfold tboxK at *
    unfold fn144_l2
    simp -implicitDefEqProofs only [code_skip, code_ops, code_seq, code_cond, code_block, ops_cons, ops_nil, aOp, opd, upd_at, upd_none, kt_cons, stepVal, stepHeap, aBin, aLen, aInt, aIndexList, isShift, aLoad1, aStore, readAt, aField, fillA, known, leaf, acells_agg, acells_int, acells_list, cellsSet, code_loopF, gc_mk, isTrim_cons, gcIds_mk, newIds_nil, newIds_cons, gcMap_at, posOf, ren, renC, idsV, idsC, isData_list_none, isData_int, Option.map_some, List.map_cons, List.map_nil, List.flatMap_cons, List.flatMap_nil, List.length_cons, List.length_nil, List.length_map, List.cons_append, List.nil_append, List.append_nil, List.append_assoc, List.getElem?_cons_zero, List.getElem?_cons_succ, List.set_cons_zero, List.set_cons_succ, List.take_succ_cons, List.take_zero, List.drop_succ_cons, List.drop_zero, List.take_nil, List.drop_nil, List.all_cons, List.all_nil, List.not_mem_nil, ↓reduceIte, Bool.and_true, Bool.false_eq_true, and_true, not_false_eq_true, decide_true, decide_false, and_self, Nat.le_refl, reduceCtorEq, Nat.add_zero, Nat.zero_add, Nat.reduceEqDiff, Nat.reduceAdd, Nat.reduceLT, Nat.reduceLeDiff, Int.toNat_natCast, Int.natCast_nonneg, roundF_eq, kt_nil, encExpr_eq, isData_vec, idsO_vec, renO_vec, Nat.mul_one, h1, h2, h3, hl0, hv, hl1, hput, hle, hiN, hid, hre, hid', hre', h1le, hdE, doCall_p L hp, hp]
  · have h0 := append_c e.length
    have hdc : isDataL (cellsE e e.length) = true := by
      unfold cellsE
      rw [isDataL_append, isDataL_map encN (fun _ => rfl), Nat.sub_self]
      rfl
    have hid := ids_data hdc
    have hre := fun ρ => ren_data ρ hdc
    generalize cellsE e e.length = c at *
    unfold fn144_l2
    simp -implicitDefEqProofs only [code_ops, code_seq, code_cond, code_exit, ops_cons, ops_nil, aOp, opd, upd_at, kt_cons, stepVal, aBin, aInt, isShift, gcE, gc_mk, isTrim_cons, gcIds_mk, newIds_nil, newIds_cons, gcMap_at, posOf, ren, renC, idsV, idsC, List.map_cons, List.map_nil, List.flatMap_cons, List.flatMap_nil, List.length_cons, List.length_nil, List.append_nil, List.take_succ_cons, List.take_nil, List.not_mem_nil, ↓reduceIte, Bool.false_eq_true, and_true, not_false_eq_true, decide_false, Nat.le_refl, reduceCtorEq, Nat.zero_add, Nat.reduceEqDiff, Nat.reduceLT, Nat.reduceLeDiff, roundF_eq, kt_nil, isData_vec, idsO_vec, renO_vec, h0, hid, hre, hdE]
end
end Go.Abs
/-
  The law PurityAbove on the machine. Conditions: none.
-/
set_option linter.unusedVariables false
set_option linter.unusedSimpArgs false
set_option maxRecDepth 100000
set_option maxHeartbeats 4000000
namespace Go.Abs
def purOf (e : List CExpr) : List Nat × Int := if checkErr e = 0 then (effAll e e [], 0) else ([], checkErr e)
theorem encN_ints (l : List Nat) : l.map encN = (l.map fun n : Nat => (n : Int)).map encI := by rw [List.map_map]; rfl
section
variable {L : Lib} (hC : CLib2 L) (hP : PLib L)
include hC hP
theorem pur_ok (e : List CExpr) (hl : e.length < 2 ^ 30) (hf : ∀ x ∈ e, NodeFit x) (h : Heap) :
    pcall L 144 [.list (e.map encExpr) none] h = some (.val (.tuple [.list ((purOf e).1.map encN) none, .int .i64 (purOf e).2]), h) := by
  have hL := hC.plain
  have hp := hL.pure
  have hdE := data_Exprs e
  have hck := check_ok hC.toCLib e hl hf
  unfold purOf
  by_cases hz : checkErr e = 0
  · rw [if_pos hz]
    rw [hz] at hck
    have hs : L.summ 144 = none := hL.summ 144 (by rw [hP.f144]; exact fun hx => by cases hx)
    have hl2 := pur_l2 hC hP e hl hf hz
    have hc0 : cellsE e 0 = List.replicate e.length (.int .i64 0) := rfl
    have hdc0 : isDataL (cellsE e 0) = true := by
      rw [hc0]
      clear hl2 hc0 hck hdE hz hl hf
      generalize e.length = m
      induction m with
      | zero => rfl
      | succ m ih => rw [List.replicate_succ, isDataL, ih]; rfl
    have hcN : cellsE e e.length = (effAll e e []).map encN := by
      unfold cellsE
      rw [List.take_length, Nat.sub_self]
      simp
    have hdcN : isDataL ((effAll e e []).map encN) = true := isDataL_map encN (fun _ => rfl) _
    have hlen : (effAll e e []).length = e.length := by rw [effAll_len]; simp
    rw [hcN] at hl2
    have hid0 := ids_data hdc0
    have hre0 := fun ρ => ren_data ρ hdc0
    have hidN := ids_data hdcN
    have hreN := fun ρ => ren_data ρ hdcN
    have hn : ((e.length : Int) ≤ 1073741824) := by omega
    simp only [Int.natCast_zero] at hl2
    rw [hc0] at hl2 hid0 hre0
    have hcall : call L 144 [.list (e.map encExpr) none] [] = some (.val (.tuple [.vec 0 e.length, .int .i64 0]), [.vec ((effAll e e []).map encN) 1]) := by
      refine call_of hs hP.f144 ?_
      generalize (effAll e e []).map encN = cN at *
      unfold fn144
      simp -implicitDefEqProofs only [code_skip, code_ops, code_seq, code_cond, code_ret, ops_cons, ops_nil, aOp, opd, upd_at, initTm_at, kt_cons, stepVal, aBin, aLen, aInt, isShift, endFn, aResults, aResult, tupled, code_loopF, gc_mk, isTrim_cons, gcIds_mk, newIds_nil, newIds_cons, gcMap_at, posOf, ren, renC, idsV, idsC, wipe_list, isData_list_none, isData_int, isDataL_nil, isDataL_cons, Option.getD_some, List.map_cons, List.map_nil, List.flatMap_cons, List.flatMap_nil, List.length_cons, List.length_nil, List.length_map, List.nil_append, List.append_nil, List.getElem?_cons_zero, List.take_succ_cons, List.take_nil, List.not_mem_nil, ↓reduceIte, Bool.and_true, Bool.false_eq_true, and_true, not_false_eq_true, decide_false, and_self, Nat.le_refl, reduceCtorEq, Nat.zero_add, Nat.reduceEqDiff, Nat.reduceLT, Nat.reduceLeDiff, Int.toNat_natCast, Int.natCast_nonneg, Int.reduceBNe, onlyVal, isData_vec, idsO_vec, renO_vec, Int.le_refl, hck, hl2, hid0, hre0, hidN, hreN, hn, hdE, doCall_p L hp, hp]
    refine pcall_of_view hcall ?_ ?_ h
    · unfold dataR
      rw [if_neg (by simp [wipeR, wipe, wipeCell, isData, isDataL])]
      unfold viewV
      rw [view1, if_neg (by simp [isData, isDataL])]
      unfold viewStep
      dsimp only
      simp only [List.map_cons, List.map_nil]
      rw [view_data (v := .int .i64 0) rfl]
      have : view1 [AObj.vec ((effAll e e []).map encN) 1] [AObj.vec ((effAll e e []).map encN) 1].length (.vec 0 e.length) = .list ((effAll e e []).map encN) none := by
        show view1 _ 1 _ = _
        rw [view1, if_neg (by simp [isData])]
        unfold viewStep
        dsimp only
        have hlf : ((effAll e e []).map encN).all leaf = true := by rw [encN_ints]; exact leaf_ints _
        have hvw : ((effAll e e []).map encN).map (view1 [AObj.vec ((effAll e e []).map encN) 1] 0) = (effAll e e []).map encN := by rw [encN_ints]; exact view_ints _ 0 _
        simp only [List.getElem?_cons_zero]
        rw [if_pos hlf, if_pos ⟨trivial, by simp [hlen]⟩, hvw]
      rw [this]
      rfl
    · simp only [isData, isDataL, hdcN, Bool.and_self]
  · rw [if_neg hz]
    have hne : (checkErr e != 0) = true := by simpa using hz
    refine pcall_fn hL hP.f144 rfl ?_ h
    dsimp only
    generalize checkErr e = r at *
    unfold fn144
    simp -implicitDefEqProofs only [code_ops, code_seq, code_cond, code_ret, ops_cons, ops_nil, aOp, opd, upd_at, initTm_at, stepVal, aBin, aInt, isShift, endFn, aResults, aResult, tupled, wipe_list, wipe_int, wipeR_tuple, isData_list_none, isDataL_nil, isDataL_cons, Option.getD_some, List.map_cons, List.map_nil, List.getElem?_cons_zero, ↓reduceIte, Bool.and_true, Bool.false_eq_true, and_self, reduceCtorEq, Nat.reduceEqDiff, onlyVal, outOf_val, hck, hne, hdE, List.map_nil, doCall_p L hp, hp]
end
def Sub (a b : Nat) : Prop := a ||| b = b
theorem Sub.refl (a : Nat) : Sub a a := Nat.or_self a
theorem Sub.trans {a b c : Nat} (h1 : Sub a b) (h2 : Sub b c) : Sub a c := by
  unfold Sub at *
  rw [← h2, ← Nat.or_assoc, h1]
theorem sub_orl (a b : Nat) : Sub a (a ||| b) := by unfold Sub; rw [← Nat.or_assoc, Nat.or_self]
theorem sub_orr (a b : Nat) : Sub b (a ||| b) := by unfold Sub; rw [Nat.or_comm a b, ← Nat.or_assoc, Nat.or_self]
theorem sub_zero (b : Nat) : Sub 0 b := Nat.zero_or b
theorem kidEff_sub (e : List CExpr) (acc : List Nat) (x : CExpr) (k v : Nat) (kid : Int) : Sub v (kidEff e acc x k v kid) := by
  unfold kidEff
  split
  · exact Sub.refl v
  · split <;> exact sub_orl _ _
theorem kidsEff_sub (e : List CExpr) (acc : List Nat) (x : CExpr) : ∀ (ks : List Int) (k v : Nat), Sub v (kidsEff e acc x ks k v)
  | [], _, v => Sub.refl v
  | kid :: ks, k, v => (kidEff_sub e acc x k v kid).trans (kidsEff_sub e acc x ks (k + 1) _)
theorem kidsEff_has (e : List CExpr) (acc : List Nat) (x : CExpr) : ∀ (ks : List Int) (k v : Nat) (j : Nat) (hj : j < ks.length), ¬ (x.op = 2 ∨ (x.op = 5 ∧ k + j < x.binds.length)) → ¬ (x.op = 3 ∧ k + j = 0 ∧ (exprAt e ks[j]).op = 2) → Sub (acc.getD ks[j].toNat 0) (kidsEff e acc x ks k v)
  | [], _, _, j, hj, _, _ => by simp at hj
  | kid :: ks, k, v, j, hj, h1, h2 => by
    rw [kidsEff]
    cases j with
    | zero =>
      refine Sub.trans ?_ (kidsEff_sub e acc x ks (k + 1) _)
      unfold kidEff
      simp only [Nat.add_zero] at h1 h2
      rw [if_neg h1, if_neg (by simpa using h2)]
      simp only [List.getElem_cons_zero]
      exact sub_orr _ _
    | succ j =>
      simp only [List.getElem_cons_succ] at h2 ⊢
      exact kidsEff_has e acc x ks (k + 1) _ j (by simpa using hj) (by rw [show k + 1 + j = k + (j + 1) by omega]; exact h1) (by rw [show k + 1 + j = k + (j + 1) by omega]; exact h2)
theorem kidsEff_lam (e : List CExpr) (acc : List Nat) (x : CExpr) (h : x.op = 2) : ∀ (ks : List Int) (k v : Nat), kidsEff e acc x ks k v = v
  | [], _, _ => rfl
  | kid :: ks, k, v => by
    rw [kidsEff, kidsEff_lam e acc x h ks]
    unfold kidEff
    rw [if_pos (.inl h)]
theorem eff_at (e : List CExpr) (i : Nat) (hi : i < e.length) : (effAll e e []).getD i 0 = effOf e (effAll e (e.take i) []) e[i] := by
  have hpre : ∀ (l m : List CExpr) (acc : List Nat), effAll e (l ++ m) acc = effAll e m (effAll e l acc) := by
    intro l m acc
    unfold effAll
    rw [List.foldl_append]
  have hgrow : ∀ (m : List CExpr) (acc : List Nat) (j : Nat), j < acc.length → (effAll e m acc)[j]? = acc[j]? := by
    intro m
    induction m with
    | nil => intro acc j _; rfl
    | cons x m ih =>
      intro acc j hj
      unfold effAll at ih ⊢
      rw [List.foldl_cons, ih _ j (by simp; omega), List.getElem?_append_left hj]
  have hl : (effAll e (e.take i) []).length = i := by rw [effAll_len]; simp; omega
  conv => lhs; rw [← List.take_append_drop (i + 1) e]
  have hsplit : effAll e (e.take (i + 1) ++ e.drop (i + 1)) [] = effAll e (e.drop (i + 1)) (effAll e (e.take (i + 1)) []) := hpre _ _ _
  rw [List.getD_eq_getElem?_getD, List.take_append_drop] 
  have h2 : effAll e e [] = effAll e (e.drop (i + 1)) (effAll e (e.take (i + 1)) []) := by rw [← hsplit, List.take_append_drop]
  rw [h2, hgrow _ _ i (by rw [effAll_len]; simp; omega), List.take_succ_eq_append_getElem hi, effAll_snoc, List.getElem?_append_right (by omega), hl, Nat.sub_self]
  rfl
theorem eff_old (e : List CExpr) (i j : Nat) (hi : i ≤ e.length) (hj : j < i) : (effAll e (e.take i) []).getD j 0 = (effAll e e []).getD j 0 := by
  have hgrow : ∀ (m : List CExpr) (acc : List Nat) (j : Nat), j < acc.length → (effAll e m acc)[j]? = acc[j]? := by
    intro m
    induction m with
    | nil => intro acc j _; rfl
    | cons x m ih =>
      intro acc j hj
      unfold effAll at ih ⊢
      rw [List.foldl_cons, ih _ j (by simp; omega), List.getElem?_append_left hj]
  have h2 : effAll e e [] = effAll e (e.drop i) (effAll e (e.take i) []) := by
    conv => lhs; rw [show effAll e e [] = effAll e (e.take i ++ e.drop i) [] by rw [List.take_append_drop]]
    unfold effAll
    rw [List.foldl_append]
  rw [List.getD_eq_getElem?_getD, List.getD_eq_getElem?_getD, h2, hgrow (e.drop i) (effAll e (e.take i) []) j (by rw [effAll_len]; simp; omega)]
theorem eff_lam {e : List CExpr} (i : Nat) (hi : i < e.length) (h : e[i].op = 2) : (effAll e e []).getD i 0 = 0 := by
  rw [eff_at e i hi]
  unfold effOf
  rw [kidsEff_lam _ _ _ h, h, own_lam]
/-- The law, in plain words. -/
theorem eff_above {e : List CExpr} (hT : TreeL e) (i : Nat) (hi : i < e.length) (k : Nat) (hk : k < e[i].kids.length) (h1 : e[i].op ≠ 2) (h2 : e[i].op ≠ 5 ∨ k = e[i].binds.length) (hb : e[i].op = 5 → e[i].kids.length = e[i].binds.length + 1) :
    Sub ((effAll e e []).getD e[i].kids[k].toNat 0) ((effAll e e []).getD i 0) := by
  have ha := hT.ahead i hi e[i].kids[k] (List.getElem_mem hk)
  have hkn : e[i].kids[k].toNat < e.length := by omega
  by_cases h3 : e[i].op = 3 ∧ 0 + k = 0 ∧ (exprAt e e[i].kids[k]).op = 2
  · rw [exprAt_eq hkn] at h3
    rw [eff_lam e[i].kids[k].toNat hkn h3.2.2]
    exact sub_zero _
  · rw [eff_at e i hi]
    unfold effOf
    rw [← eff_old e i e[i].kids[k].toNat (by omega) (by omega)]
    exact kidsEff_has e _ e[i] e[i].kids 0 _ k hk (by rintro (h | ⟨h, h'⟩); exact h1 h; rcases h2 with h2 | h2; exact h2 h; omega) h3
end Go.Abs
