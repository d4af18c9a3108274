/-
  Maps with numbers as keys, and whether an identifier is bound twice. Conditions: none.
-/
import Derived.Test.YtciacognbcgfiaaDoorCoreI
set_option linter.unusedVariables false
set_option linter.unusedSimpArgs false
set_option maxRecDepth 100000
set_option maxHeartbeats 4000000
namespace Go.Abs
abbrev IM (β : Type) := List (Int × β)
section
variable {β : Type} (f : β → AVal)
def encK (m : IM β) : List (AVal × AVal) := m.map fun p => (.int .i64 p.1, f p.2)
theorem ren_K (hf : ∀ b, isData (f b) = true) (ρ : Nat → Option Nat) (m : IM β) : renO ρ (.map (encK f m)) = .map (encK f m) := by
  have h1 : ∀ v : AVal, isData v = true → ren ρ v = v := fun v hv => by unfold ren; rw [if_pos hv]
  unfold renO encK
  dsimp only
  rw [List.map_map]
  congr 1
  refine List.map_congr_left fun p _ => ?_
  simp only [Function.comp, h1 _ (hf p.2), h1 (.int .i64 p.1) rfl]
theorem ids_K (hf : ∀ b, isData (f b) = true) (m : IM β) : idsO (.map (encK f m)) = [] := by
  have h1 : ∀ v : AVal, isData v = true → idsV v = [] := fun v hv => by unfold idsV; rw [if_pos hv]
  unfold idsO encK
  dsimp only
  induction m with
  | nil => rfl
  | cons p m ih =>
    rw [List.map_cons, List.flatMap_cons, h1 _ (hf p.2), h1 (.int .i64 p.1) rfl]
    exact ih
def findK (v : Int) : IM β → Option β
  | [] => none
  | p :: m => if v = p.1 then some p.2 else findK v m
def setKI (v : Int) (b : β) (m : IM β) : IM β := m.map fun p => if v = p.1 then (v, b) else p
def insKI (v : Int) (b : β) : IM β → IM β
  | [] => [(v, b)]
  | p :: m => if v < p.1 then (v, b) :: p :: m else p :: insKI v b m
def putK (v : Int) (b : β) (m : IM β) : IM β := if (findK v m).isSome = true then setKI v b m else insKI v b m
theorem findK_some {v : Int} {b : β} : ∀ {m : IM β} (i : Nat), findK v m = some b → ∃ j, findKeyA (.int .i64 v) (encK f m) i = some (some (j, f b))
  | [], i, h => by cases h
  | p :: m, i, h => by
    unfold findK at h
    by_cases hv : v = p.1
    · rw [if_pos hv] at h
      injection h with h
      subst h
      exact ⟨i, by simp [encK, findKeyA, keyEq, hv]⟩
    · rw [if_neg hv] at h
      obtain ⟨j, hj⟩ := findK_some (i + 1) h
      have hb : (v == p.1) = false := by simpa using hv
      exact ⟨j, by rw [← hj]; simp [encK, findKeyA, keyEq, hb]⟩
theorem findK_none {v : Int} : ∀ {m : IM β} (i : Nat), findK v m = none → findKeyA (.int .i64 v) (encK f m) i = some none
  | [], i, h => rfl
  | p :: m, i, h => by
    unfold findK at h
    by_cases hv : v = p.1
    · rw [if_pos hv] at h
      cases h
    · rw [if_neg hv] at h
      have hb : (v == p.1) = false := by simpa using hv
      rw [← findK_none (i + 1) h]
      simp [encK, findKeyA, keyEq, hb]
theorem encK_ins (v : Int) (b : β) : ∀ m : IM β, insK (.int .i64 v) (f b) (encK f m) = encK f (insKI v b m)
  | [] => rfl
  | p :: m => by
    unfold insKI encK
    rw [List.map_cons, insK]
    simp only [keyLt, decide_eq_true_eq]
    by_cases h : v < p.1
    · rw [if_pos h, if_pos h]
      rfl
    · rw [if_neg h, if_neg h, List.map_cons]
      exact congrArg _ (encK_ins v b m)
theorem encK_set (v : Int) (b : β) (m : IM β) : setK (.int .i64 v) (f b) (encK f m) = encK f (setKI v b m) := by
  unfold setK encK setKI
  rw [List.map_map, List.map_map]
  refine List.map_congr_left fun p _ => ?_
  simp only [Function.comp, keyEq, if_true, Option.some.injEq, beq_iff_eq]
  by_cases h : v = p.1
  · rw [if_pos h, if_pos h]
  · rw [if_neg h, if_neg h]
theorem lookK (h : Heap) (r : Nat) (zero : AVal) (ok : Bool) (v : Int) (m : IM β) (hr : h[r]? = some (.map (encK f m))) :
    aLookup h .int zero ok (.map (some r)) (.int .i64 v) = some (match findK v m with | some b => (if ok = true then .tuple [f b, .bool true] else f b) | none => (if ok = true then .tuple [zero, .bool false] else zero)) := by
  unfold aLookup mapAt
  rw [if_pos (show keyable .int (.int .i64 v) = true from rfl)]
  dsimp only
  rw [hr]
  dsimp only
  cases hq : findK v m with
  | some b =>
    obtain ⟨j, hj⟩ := findK_some f 0 hq
    rw [hj]
  | none => rw [findK_none f 0 hq]
theorem updK (h : Heap) (r : Nat) (v : Int) (b : β) (m : IM β) (hw : wipe (f b) = f b) (hr : h[r]? = some (.map (encK f m))) :
    aMapUpdate h .int (.map (some r)) (.int .i64 v) (f b) = some (h.set r (.map (encK f (putK v b m)))) := by
  unfold aMapUpdate putK
  dsimp only
  rw [hr]
  dsimp only
  rw [if_pos (show keyable .int (.int .i64 v) = true from rfl), hw]
  cases hq : findK v m with
  | some c =>
    obtain ⟨j, hj⟩ := findK_some f 0 hq
    rw [hj]
    simp only [Option.isSome_some, if_true, encK_set]
  | none =>
    rw [findK_none f 0 hq]
    simp only [Option.isSome_none, Bool.false_eq_true, if_false, encK_ins]
theorem findK_ins (v w : Int) (b : β) : ∀ m : IM β, findK w m = none → findK v (insKI w b m) = if v = w then some b else findK v m
  | [], _ => by simp [insKI, findK]
  | p :: m, h => by
    unfold findK at h
    have hw : ¬ w = p.1 := by
      intro e
      rw [if_pos e] at h
      cases h
    rw [if_neg hw] at h
    have ih := findK_ins v w b m h
    unfold insKI
    by_cases hlt : w < p.1
    · rw [if_pos hlt]
      simp only [findK]
    · rw [if_neg hlt]
      simp only [findK]
      rw [ih]
      by_cases h1 : v = p.1
      · have : ¬ v = w := by omega
        rw [if_pos h1, if_neg this, if_pos h1]
      · rw [if_neg h1, if_neg h1]
theorem findK_set (v w : Int) (b : β) : ∀ m : IM β, (findK w m).isSome = true → findK v (setKI w b m) = if v = w then some b else findK v m
  | [], h => by cases h
  | p :: m, h => by
    unfold setKI
    rw [List.map_cons]
    by_cases hw : w = p.1
    · rw [if_pos hw]
      simp only [findK]
      by_cases hv : v = w
      · rw [if_pos hv, if_pos hv]
      · rw [if_neg hv, if_neg hv, if_neg (by omega)]
        by_cases hs : (findK w m).isSome = true
        · have := findK_set v w b m hs
          unfold setKI at this
          rw [this, if_neg hv]
        · have : m.map (fun p => if w = p.1 then (w, b) else p) = m := by
            have hn : ∀ q ∈ m, ¬ w = q.1 := by
              clear h
              induction m with
              | nil => simp
              | cons q m ih =>
                intro x hx
                unfold findK at hs
                by_cases hq : w = q.1
                · rw [if_pos hq] at hs; exact absurd rfl hs
                · rw [if_neg hq] at hs
                  rcases List.mem_cons.1 hx with rfl | hx
                  · exact hq
                  · exact ih hs x hx
            have h2 : m.map (fun p => if w = p.1 then (w, b) else p) = m.map id := List.map_congr_left fun q hq => if_neg (hn q hq)
            rw [h2, List.map_id]
          rw [this]
    · rw [if_neg hw]
      unfold findK at h
      rw [if_neg hw] at h
      have := findK_set v w b m h
      unfold setKI at this
      simp only [findK]
      rw [this]
      by_cases h1 : v = p.1
      · rw [if_pos h1, if_neg (by omega), if_pos h1]
      · rw [if_neg h1, if_neg h1]
theorem findK_put (v w : Int) (b : β) (m : IM β) : findK v (putK w b m) = if v = w then some b else findK v m := by
  unfold putK
  by_cases h : (findK w m).isSome = true
  · rw [if_pos h, findK_set v w b m h]
  · rw [if_neg h, findK_ins v w b m (by simpa using h)]
end
abbrev encU : IM Unit → List (AVal × AVal) := encK fun _ => .agg []
def seenE (_ : Nat) (s : IM Unit) (n : Int) : Except Unit (IM Unit) := if (findK n s).isSome = true then .error () else .ok (putK n () s)
theorem seen_err (ns : List Int) : ∀ (i : Nat) (s : IM Unit), (∃ u, foldE seenE ns i s = .error u) ↔ ¬ (ns.Nodup ∧ ∀ n ∈ ns, findK n s = none) := by
  induction ns with
  | nil => intro i s; simp [foldE]
  | cons n ns ih =>
    intro i s
    rw [foldE]
    unfold seenE
    by_cases h : (findK n s).isSome = true
    · rw [if_pos h]
      simp only [List.forall_mem_cons]
      constructor
      · intro _ hx
        rw [hx.2.1] at h
        cases h
      · intro _; simp
    · rw [if_neg h]
      dsimp only
      have h' : findK n s = none := by simpa using h
      have := ih (i + 1) (putK n () s)
      unfold seenE at this
      rw [this]
      simp only [findK_put, List.nodup_cons, List.forall_mem_cons]
      apply not_congr
      constructor
      · rintro ⟨h1, h2⟩
        refine ⟨⟨?_, h1⟩, h', ?_⟩
        · intro hm
          have := h2 n hm
          rw [if_pos rfl] at this
          cases this
        · intro m hm
          have := h2 m hm
          by_cases e : m = n
          · rw [if_pos e] at this; cases this
          · rwa [if_neg e] at this
      · rintro ⟨⟨h1, h2⟩, _, h4⟩
        refine ⟨h2, fun m hm => ?_⟩
        rw [if_neg (fun e : m = n => h1 (e ▸ hm))]
        exact h4 m hm
theorem twice_ids (s : IM Unit) : idsO (.map (encU s)) = [] := ids_K _ (fun _ => rfl) s
theorem twice_ren (ρ : Nat → Option Nat) (s : IM Unit) : renO ρ (.map (encU s)) = .map (encU s) := ren_K _ (fun _ => rfl) ρ s
section
variable {L : Lib} (hL : Plain L)
def w195a (E : AVal) (s : IM Unit) (ns : List Int) (j : Nat) : St := ⟨kt [0, 5, 18, 19, 20] [E, .map (some 0), .list (ns.map encI) none, .int .i64 ns.length, .int .i64 j], [.map (encU s)]⟩
def w195b (E : AVal) (v : AVal) (s : IM Unit) : St := ⟨kt [0, 4, 5] [E, v, .map (some 0)], [.map (encU s)]⟩
theorem twice_l0 (E : AVal) (hE : isData E = true) (ns : List Int) (hl : ns.length < 2 ^ 30) (s0 : IM Unit) :
    (∀ s, foldE seenE ns 0 s0 = .ok s → True ∧ loopF L.pure (call L) 1 [0, 5, 18, 19, 20] [0, 4, 5] 0 fn195_l0 (w195a E s0 ns 0) = some (.normal, w195b E .junk s)) ∧
    (∀ u, foldE seenE ns 0 s0 = .error u → ∃ R, (∃ s, R = w195b E (.bool true) s) ∧ loopF L.pure (call L) 1 [0, 5, 18, 19, 20] [0, 4, 5] 0 fn195_l0 (w195a E s0 ns 0) = some (.ret, R)) := by
  refine loopF_foldE ns seenE (fun s j => w195a E s ns j) (w195b E .junk) (fun _ R => ∃ s, R = w195b E (.bool true) s) (fun _ _ => True) s0 trivial ?_ ?_ ?_
  · intro i hi s s' _ hq
    obtain ⟨h1, h2, h3⟩ := round_c encI ns hl i hi
    refine ⟨?_, trivial⟩
    unfold seenE at hq
    split at hq
    · cases hq
    · rename_i hn
      injection hq with hq
      subst hq
      generalize ns[i] = n at *
      have hf : findK n s = none := by simpa using hn
      have hlk := fun (h : Heap) (hr : h[0]? = some (.map (encU s))) => lookK (fun _ : Unit => AVal.agg []) h 0 (.agg []) true n s hr
      have hup := fun (h : Heap) (hr : h[0]? = some (.map (encU s))) => updK (fun _ : Unit => AVal.agg []) h 0 n () s rfl hr
      rw [hf] at hlk
      unfold fn195_l0 w195a
      simp -implicitDefEqProofs only [code_skip, code_ops, code_seq, code_cond, code_block, ops_cons, ops_nil, aOp, opd, upd_at, upd_none, kt_cons, stepVal, stepHeap, aBin, aInt, aIndexList, isShift, aLoad1, aStore, fillA, acells_agg, acells_int, cellsSet, gc_mk, isTrim_cons, gcIds_mk, newIds_nil, newIds_cons, gcMap_at, posOf, ren, renC, idsV, idsC, isData_list_none, isData_int, isData_map, Option.map_some, List.map_cons, List.map_nil, List.flatMap_cons, List.flatMap_nil, List.length_cons, List.length_nil, List.cons_append, List.nil_append, List.append_nil, List.getElem?_cons_zero, List.getElem?_cons_succ, List.set_cons_zero, List.set_cons_succ, List.take_succ_cons, List.take_zero, List.take_nil, List.drop_nil, List.all_nil, List.not_mem_nil, ↓reduceIte, Bool.false_eq_true, and_true, not_false_eq_true, decide_true, decide_false, and_self, Nat.le_refl, reduceCtorEq, Nat.add_zero, Nat.zero_add, Nat.reduceEqDiff, Nat.reduceAdd, Nat.reduceLT, Nat.reduceLeDiff, Int.toNat_natCast, Int.natCast_nonneg, roundF_eq, kt_nil, encI_eq, data_Ints, h1, h2, h3, hlk, hup, hE, twice_ids, twice_ren]
  · intro i hi s u _ hq
    obtain ⟨h1, h2, h3⟩ := round_c encI ns hl i hi
    refine ⟨_, ⟨s, rfl⟩, ?_⟩
    unfold seenE at hq
    split at hq
    · rename_i hn
      generalize ns[i] = n at *
      obtain ⟨x, hf⟩ := Option.isSome_iff_exists.1 hn
      have hlk := fun (h : Heap) (hr : h[0]? = some (.map (encU s))) => lookK (fun _ : Unit => AVal.agg []) h 0 (.agg []) true n s hr
      rw [hf] at hlk
      unfold fn195_l0 w195a w195b
      simp -implicitDefEqProofs only [code_skip, code_ops, code_seq, code_cond, code_block, code_ret, ops_cons, ops_nil, aOp, opd, upd_at, upd_none, kt_cons, stepVal, stepHeap, aBin, aInt, aIndexList, isShift, aLoad1, aStore, acells_agg, acells_int, cellsSet, gcE, gc_mk, isTrim_cons, gcIds_mk, newIds_nil, newIds_cons, gcMap_at, posOf, ren, renC, idsV, idsC, isData_bool, isData_map, List.map_cons, List.map_nil, List.flatMap_cons, List.flatMap_nil, List.length_cons, List.length_nil, List.cons_append, List.nil_append, List.append_nil, List.getElem?_cons_zero, List.getElem?_cons_succ, List.set_cons_zero, List.set_cons_succ, List.take_succ_cons, List.take_zero, List.take_nil, List.drop_nil, List.all_nil, List.not_mem_nil, ↓reduceIte, Bool.false_eq_true, and_true, not_false_eq_true, decide_true, decide_false, and_self, Nat.le_refl, reduceCtorEq, Nat.add_zero, Nat.zero_add, Nat.reduceEqDiff, Nat.reduceAdd, Nat.reduceLT, Nat.reduceLeDiff, Int.toNat_natCast, Int.natCast_nonneg, roundF_eq, kt_nil, encI_eq, h1, h2, h3, hlk, hE, twice_ids, twice_ren]
    · cases hq
  · intro s _
    have h0 := append_c ns.length
    unfold fn195_l0 w195a w195b
    simp -implicitDefEqProofs only [code_ops, code_seq, code_cond, code_exit, ops_cons, ops_nil, aOp, opd, upd_at, kt_cons, stepVal, aBin, aInt, isShift, gcE, gc_mk, isTrim_cons, gcIds_mk, newIds_nil, newIds_cons, gcMap_at, posOf, ren, renC, idsV, idsC, isData_map, isData_junk, List.map_cons, List.map_nil, List.flatMap_cons, List.flatMap_nil, List.length_cons, List.length_nil, List.nil_append, List.append_nil, List.take_succ_cons, List.take_nil, List.not_mem_nil, ↓reduceIte, Bool.false_eq_true, and_true, not_false_eq_true, decide_false, Nat.le_refl, reduceCtorEq, Nat.zero_add, Nat.reduceEqDiff, Nat.reduceLT, Nat.reduceLeDiff, roundF_eq, kt_nil, h0, hE, twice_ids, twice_ren]
def bindersX (x : CExpr) : List Int := bindersOf x.op x.binds x.alts
def BFit (x : CExpr) : Prop := (x.binds ++ x.alts.flatMap (·.binds)).length < 2 ^ 30
def w195c (e : List CExpr) (x : CExpr) (i : Nat) (ns : List Int) (s : IM Unit) (j : Nat) : St := ⟨kt [5, 35, 36, 37, 50, 51, 52] [.map (some 0), .list (e.map encExpr) none, .int .i64 e.length, .int .i64 i, .list (ns.map encI) none, .int .i64 ns.length, .int .i64 j],
  [.map (encU s), .box [.int .i64 x.op, .int .i64 x.n, .list (x.binds.map encI) none, .list (x.kids.map encI) none, .list (x.alts.map encAlt) none], .gone]⟩
def w195d (e : List CExpr) (x : CExpr) (i : Nat) (v : AVal) (s : IM Unit) : St := ⟨kt [4, 5, 35, 36, 37] [v, .map (some 0), .list (e.map encExpr) none, .int .i64 e.length, .int .i64 i],
  [.map (encU s), .box [.int .i64 x.op, .int .i64 x.n, .list (x.binds.map encI) none, .list (x.kids.map encI) none, .list (x.alts.map encAlt) none], .gone]⟩
theorem twice_l1 (e : List CExpr) (x : CExpr) (i : Nat) (ns : List Int) (hl : ns.length < 2 ^ 30) (s0 : IM Unit) :
    (∀ s, foldE seenE ns 0 s0 = .ok s → True ∧ loopF L.pure (call L) 3 [5, 35, 36, 37, 50, 51, 52] [4, 5, 35, 36, 37] 4 fn195_l1 (w195c e x i ns s0 0) = some (.normal, w195d e x i .junk s)) ∧
    (∀ u, foldE seenE ns 0 s0 = .error u → ∃ R, (∃ s, R = w195d e x i (.bool true) s) ∧ loopF L.pure (call L) 3 [5, 35, 36, 37, 50, 51, 52] [4, 5, 35, 36, 37] 4 fn195_l1 (w195c e x i ns s0 0) = some (.ret, R)) := by
  have hdE := data_Exprs e
  refine loopF_foldE ns seenE (fun s j => w195c e x i ns s j) (w195d e x i .junk) (fun _ R => ∃ s, R = w195d e x i (.bool true) s) (fun _ _ => True) s0 trivial ?_ ?_ ?_
  · intro j hj s s' _ hq
    obtain ⟨h1, h2, h3⟩ := round_c encI ns hl j hj
    refine ⟨?_, trivial⟩
    unfold seenE at hq
    split at hq
    · cases hq
    · rename_i hn
      injection hq with hq
      subst hq
      generalize ns[j] = n at *
      have hf : findK n s = none := by simpa using hn
      have hlk := fun (h : Heap) (hr : h[0]? = some (.map (encU s))) => lookK (fun _ : Unit => AVal.agg []) h 0 (.agg []) true n s hr
      have hup := fun (h : Heap) (hr : h[0]? = some (.map (encU s))) => updK (fun _ : Unit => AVal.agg []) h 0 n () s rfl hr
      rw [hf] at hlk
      unfold fn195_l1 w195c
      simp -implicitDefEqProofs only [code_skip, code_ops, code_seq, code_cond, code_block, ops_cons, ops_nil, aOp, opd, upd_at, upd_none, kt_cons, stepVal, stepHeap, aBin, aInt, aIndexList, isShift, aLoad1, aStore, fillA, acells_agg, acells_int, cellsSet, gc_mk, isTrim_cons, gcIds_mk, newIds_nil, newIds_cons, gcMap_at, posOf, ren, renC, renO_gone, renO_box, idsV, idsC, idsO_gone, idsO_box, isData_list_none, isData_int, isData_map, Option.map_some, List.map_cons, List.map_nil, List.flatMap_cons, List.flatMap_nil, List.length_cons, List.length_nil, List.cons_append, List.nil_append, List.append_nil, List.getElem?_cons_zero, List.getElem?_cons_succ, List.set_cons_zero, List.set_cons_succ, List.take_succ_cons, List.take_zero, List.take_nil, List.drop_nil, List.all_nil, List.not_mem_nil, ↓reduceIte, Bool.false_eq_true, and_true, not_false_eq_true, decide_true, decide_false, and_self, Nat.le_refl, Nat.add_zero, Nat.zero_add, Nat.reduceEqDiff, Nat.reduceAdd, Nat.reduceLT, Nat.reduceLeDiff, Int.toNat_natCast, Int.natCast_nonneg, roundF_eq, kt_nil, encI_eq, data_Ints, data_Alts, h1, h2, h3, hlk, hup, hdE, twice_ids, twice_ren]
  · intro j hj s u _ hq
    obtain ⟨h1, h2, h3⟩ := round_c encI ns hl j hj
    refine ⟨_, ⟨s, rfl⟩, ?_⟩
    unfold seenE at hq
    split at hq
    · rename_i hn
      generalize ns[j] = n at *
      obtain ⟨y, hf⟩ := Option.isSome_iff_exists.1 hn
      have hlk := fun (h : Heap) (hr : h[0]? = some (.map (encU s))) => lookK (fun _ : Unit => AVal.agg []) h 0 (.agg []) true n s hr
      rw [hf] at hlk
      unfold fn195_l1 w195c w195d
      simp -implicitDefEqProofs only [code_skip, code_ops, code_seq, code_cond, code_block, code_ret, ops_cons, ops_nil, aOp, opd, upd_at, upd_none, kt_cons, stepVal, stepHeap, aBin, aInt, aIndexList, isShift, aLoad1, aStore, acells_agg, acells_int, cellsSet, gcE, gc_mk, isTrim_cons, gcIds_mk, newIds_nil, newIds_cons, gcMap_at, posOf, ren, renC, renO_gone, renO_box, idsV, idsC, idsO_gone, idsO_box, isData_list_none, isData_bool, isData_int, isData_map, List.map_cons, List.map_nil, List.flatMap_cons, List.flatMap_nil, List.length_cons, List.length_nil, List.cons_append, List.nil_append, List.append_nil, List.getElem?_cons_zero, List.getElem?_cons_succ, List.set_cons_zero, List.set_cons_succ, List.take_succ_cons, List.take_zero, List.take_nil, List.drop_nil, List.all_nil, List.not_mem_nil, ↓reduceIte, Bool.false_eq_true, and_true, not_false_eq_true, decide_true, decide_false, and_self, Nat.le_refl, Nat.add_zero, Nat.zero_add, Nat.reduceEqDiff, Nat.reduceAdd, Nat.reduceLT, Nat.reduceLeDiff, Int.toNat_natCast, Int.natCast_nonneg, roundF_eq, kt_nil, encI_eq, data_Ints, data_Alts, h1, h2, h3, hlk, hdE, twice_ids, twice_ren]
    · cases hq
  · intro s _
    have h0 := append_c ns.length
    unfold fn195_l1 w195c w195d
    simp -implicitDefEqProofs only [code_ops, code_seq, code_cond, code_exit, ops_cons, ops_nil, aOp, opd, upd_at, kt_cons, stepVal, aBin, aInt, isShift, gcE, gc_mk, isTrim_cons, gcIds_mk, newIds_nil, newIds_cons, gcMap_at, posOf, ren, renC, renO_gone, renO_box, idsV, idsC, idsO_gone, idsO_box, isData_list_none, isData_int, isData_map, isData_junk, List.map_cons, List.map_nil, List.flatMap_cons, List.flatMap_nil, List.length_cons, List.length_nil, List.nil_append, List.append_nil, List.take_succ_cons, List.take_nil, List.not_mem_nil, ↓reduceIte, Bool.false_eq_true, and_true, not_false_eq_true, decide_false, Nat.le_refl, Nat.zero_add, Nat.reduceEqDiff, Nat.reduceAdd, Nat.reduceLT, Nat.reduceLeDiff, roundF_eq, kt_nil, data_Ints, data_Alts, h0, hdE, twice_ids, twice_ren]
theorem opB_len (op : Int) (binds : List Int) (as : List CAlt) : (bindersOf op binds as).length ≤ (binds ++ as.flatMap (·.binds)).length := by
  unfold bindersOf
  rw [List.length_append, List.length_append]
  split <;> simp
theorem nilU : encU [] = [] := rfl
include hL
def w195e (e : List CExpr) (s : IM Unit) (i : Nat) : St := ⟨kt [5, 35, 36, 37] [.map (some 0), .list (e.map encExpr) none, .int .i64 e.length, .int .i64 i], [.map (encU s)]⟩
def twiceE (_ : Nat) (s : IM Unit) (x : CExpr) : Except Unit (IM Unit) := foldE seenE (bindersX x) 0 s
theorem twice_l2 (h232 : L.fns 232 = some fn232) (e : List CExpr) (hl : e.length < 2 ^ 30) (hf : ∀ x ∈ e, NodeFit x) (hb : ∀ x ∈ e, BFit x) (s0 : IM Unit) :
    (∀ s, foldE twiceE e 0 s0 = .ok s → True ∧ loopF L.pure (call L) 1 [5, 35, 36, 37] [4] 2 fn195_l2 (w195e e s0 0) = some (.normal, ⟨kt [4] [.junk], [.map (encU s)]⟩)) ∧
    (∀ u, foldE twiceE e 0 s0 = .error u → ∃ R, (∃ s : IM Unit, R = ⟨kt [4] [.bool true], [.map (encU s)]⟩) ∧ loopF L.pure (call L) 1 [5, 35, 36, 37] [4] 2 fn195_l2 (w195e e s0 0) = some (.ret, R)) := by
  have hp := hL.pure
  have hdE := data_Exprs e
  refine loopF_foldE e twiceE (w195e e) (fun s => ⟨kt [4] [.junk], [.map (encU s)]⟩) (fun _ R => ∃ s : IM Unit, R = ⟨kt [4] [.bool true], [.map (encU s)]⟩) (fun _ _ => True) s0 trivial ?_ ?_ ?_
  · intro i hi s s' _ hq
    obtain ⟨h1, h2, h3⟩ := round_c encExpr e hl i hi
    refine ⟨?_, trivial⟩
    have hx := hf e[i] (List.getElem_mem hi)
    have hbx := hb e[i] (List.getElem_mem hi)
    generalize e[i] = x at *
    unfold BFit at hbx
    have hbo := binders_ok hL h232 x.op 0 x.binds (.list [] none) rfl x.alts hx.alts (by omega)
    have hle := opB_len x.op x.binds x.alts
    obtain ⟨ha, _⟩ := twice_l1 (L := L) e x i (bindersX x) (by unfold bindersX; omega) s
    obtain ⟨_, ha⟩ := ha s' hq
    unfold w195c w195d at ha
    unfold bindersX at ha
    simp only [Int.natCast_zero] at ha
    unfold fn195_l2 w195e
    simp -implicitDefEqProofs only [code_skip, code_ops, code_seq, code_cond, code_block, ops_cons, ops_nil, aOp, opd, upd_at, upd_none, kt_cons, stepVal, stepHeap, aBin, aLen, aInt, aIndexList, isShift, aLoad1, aStore, readAt, aField, fillA, known, leaf, acells_agg, acells_int, acells_list, cellsSet, code_loopF, gc_mk, isTrim_cons, gcIds_mk, newIds_nil, newIds_cons, gcMap_at, posOf, ren, renC, renO_gone, renO_box, idsV, idsC, idsO_gone, idsO_box, wipe_vptr, wipeC_list, wipeC_int, isData_list_none, isData_int, isData_vptr, isData_map, isDataL_nil, isDataL_cons, Option.map_some, List.map_cons, List.map_nil, List.flatMap_cons, List.flatMap_nil, List.length_cons, List.length_nil, List.length_map, List.cons_append, List.nil_append, List.append_nil, List.getElem?_cons_zero, List.getElem?_cons_succ, List.set_cons_zero, List.set_cons_succ, List.take_succ_cons, List.take_zero, List.drop_succ_cons, List.drop_zero, List.take_nil, List.drop_nil, List.all_cons, List.all_nil, List.not_mem_nil, ↓reduceIte, Bool.and_true, Bool.false_eq_true, and_true, false_and, not_false_eq_true, decide_true, decide_false, and_self, Nat.le_refl, reduceCtorEq, Nat.add_zero, Nat.zero_add, Nat.reduceEqDiff, Nat.reduceAdd, Nat.reduceLT, Nat.reduceLeDiff, Int.toNat_natCast, Int.natCast_nonneg, roundF_eq, kt_nil, code_freeze, freezeS_mk, frzAt_mk, frzT_at, frz, frzC, frzO, encExpr_eq, data_Ints, data_Alts, h1, h2, h3, hbo, ha, hdE, twice_ids, twice_ren, doCall_p L hp, hp]
  · intro i hi s u _ hq
    obtain ⟨h1, h2, h3⟩ := round_c encExpr e hl i hi
    have hx := hf e[i] (List.getElem_mem hi)
    have hbx := hb e[i] (List.getElem_mem hi)
    generalize e[i] = x at *
    unfold BFit at hbx
    have hbo := binders_ok hL h232 x.op 0 x.binds (.list [] none) rfl x.alts hx.alts (by omega)
    have hle := opB_len x.op x.binds x.alts
    obtain ⟨_, ha⟩ := twice_l1 (L := L) e x i (bindersX x) (by unfold bindersX; omega) s
    obtain ⟨R, ⟨t, rfl⟩, ha⟩ := ha u hq
    refine ⟨_, ⟨t, rfl⟩, ?_⟩
    unfold w195c w195d at ha
    unfold bindersX at ha
    simp only [Int.natCast_zero] at ha
    unfold fn195_l2 w195e
    simp -implicitDefEqProofs only [code_skip, code_ops, code_seq, code_cond, code_block, ops_cons, ops_nil, aOp, opd, upd_at, upd_none, kt_cons, stepVal, stepHeap, aBin, aLen, aInt, aIndexList, isShift, aLoad1, aStore, readAt, aField, fillA, known, leaf, acells_agg, acells_int, acells_list, cellsSet, code_loopF, gcE, gc_mk, isTrim_cons, gcIds_mk, newIds_nil, newIds_cons, gcMap_at, posOf, ren, renC, renO_gone, renO_box, idsV, idsC, idsO_gone, idsO_box, wipe_vptr, wipeC_list, wipeC_int, isData_list_none, isData_bool, isData_int, isData_vptr, isData_map, isDataL_nil, isDataL_cons, Option.map_some, List.map_cons, List.map_nil, List.flatMap_cons, List.flatMap_nil, List.length_cons, List.length_nil, List.length_map, List.cons_append, List.nil_append, List.append_nil, List.getElem?_cons_zero, List.getElem?_cons_succ, List.set_cons_zero, List.set_cons_succ, List.take_succ_cons, List.take_zero, List.drop_succ_cons, List.drop_zero, List.take_nil, List.drop_nil, List.all_cons, List.all_nil, List.not_mem_nil, ↓reduceIte, Bool.and_true, Bool.false_eq_true, and_true, false_and, not_false_eq_true, decide_true, decide_false, and_self, Nat.le_refl, reduceCtorEq, Nat.add_zero, Nat.zero_add, Nat.reduceEqDiff, Nat.reduceAdd, Nat.reduceLT, Nat.reduceLeDiff, Int.toNat_natCast, Int.natCast_nonneg, roundF_eq, kt_nil, code_freeze, freezeS_mk, frzAt_mk, frzT_at, frz, frzC, frzO, encExpr_eq, data_Ints, data_Alts, h1, h2, h3, hbo, ha, hdE, twice_ids, twice_ren, doCall_p L hp, hp]
  · intro s _
    have h0 := append_c e.length
    unfold fn195_l2 w195e
    simp -implicitDefEqProofs only [code_ops, code_seq, code_cond, code_exit, ops_cons, ops_nil, aOp, opd, upd_at, kt_cons, stepVal, aBin, aInt, isShift, gcE, gc_mk, isTrim_cons, gcIds_mk, newIds_nil, gcMap_at, posOf, ren, renC, idsV, idsC, isData_junk, List.map_cons, List.map_nil, List.flatMap_cons, List.flatMap_nil, List.length_cons, List.length_nil, List.append_nil, List.take_succ_cons, List.take_nil, ↓reduceIte, Bool.false_eq_true, decide_false, Nat.le_refl, Nat.zero_add, Nat.reduceEqDiff, roundF_eq, kt_nil, h0, hdE, twice_ids, twice_ren]
def twiceOf (e : List CExpr) (ps : List Int) : Bool :=
  match foldE seenE ps 0 [] with
  | .error _ => true
  | .ok s => (match foldE twiceE e 0 s with | .error _ => true | .ok _ => false)
theorem twice_ok (h232 : L.fns 232 = some fn232) (h195 : L.fns 195 = some fn195) (e : List CExpr) (hl : e.length < 2 ^ 30) (hf : ∀ x ∈ e, NodeFit x) (hb : ∀ x ∈ e, BFit x) (ps : List Int) (hps : ps.length < 2 ^ 30) (h : Heap) :
    pcall L 195 [.list (e.map encExpr) none, .list (ps.map encI) none] h = some (.val (.bool (twiceOf e ps)), h) := by
  have hdE := data_Exprs e
  refine pcall_fn hL h195 rfl ?_ h
  obtain ⟨ha, hb1⟩ := twice_l0 (L := L) (.list (e.map encExpr) none) (by rw [isData_list_none]; exact hdE) ps hps []
  unfold twiceOf
  cases hq : foldE seenE ps 0 [] with
  | error u =>
    obtain ⟨R, ⟨s, rfl⟩, hl0⟩ := hb1 u hq
    unfold w195a w195b at hl0
    simp only [Int.natCast_zero, nilU] at hl0
    unfold fn195
    simp -implicitDefEqProofs only [code_ops, code_seq, ops_cons, ops_nil, aOp, opd, upd_at, initTm_at, kt_cons, stepVal, aLen, endFn, aResults, aResult, tupled, code_loopF, gc_mk, isTrim_cons, gcIds_mk, newIds_nil, newIds_cons, gcMap_at, posOf, ren, renC, renO_nilm, idsV, idsC, idsO_nilm, wipeR_bool, isData_list_none, isData_int, isData_map, Option.getD_some, List.map_cons, List.map_nil, List.flatMap_cons, List.flatMap_nil, List.length_cons, List.length_nil, List.length_map, List.nil_append, List.append_nil, List.getElem?_cons_zero, List.getElem?_cons_succ, List.take_succ_cons, List.take_nil, List.not_mem_nil, ↓reduceIte, Bool.false_eq_true, and_true, not_false_eq_true, decide_false, Nat.le_refl, reduceCtorEq, Nat.zero_add, Nat.reduceEqDiff, Nat.reduceLT, Nat.reduceLeDiff, outOf_val, data_Ints, hl0, hdE, twice_ids, twice_ren]
  | ok s =>
    obtain ⟨_, hl0⟩ := ha s hq
    unfold w195a w195b at hl0
    simp only [Int.natCast_zero, nilU] at hl0
    obtain ⟨hc, hd⟩ := twice_l2 hL h232 e hl hf hb s
    dsimp only
    cases hr : foldE twiceE e 0 s with
    | error u =>
      obtain ⟨R, ⟨t, rfl⟩, hl2⟩ := hd u hr
      unfold w195e at hl2
      simp only [Int.natCast_zero] at hl2
      unfold fn195
      simp -implicitDefEqProofs only [code_ops, code_seq, ops_cons, ops_nil, aOp, opd, upd_at, initTm_at, kt_cons, stepVal, aLen, endFn, aResults, aResult, tupled, code_loopF, gc_mk, isTrim_cons, gcIds_mk, newIds_nil, newIds_cons, gcMap_at, posOf, ren, renC, renO_nilm, idsV, idsC, idsO_nilm, wipeR_bool, isData_list_none, isData_int, isData_map, Option.getD_some, List.map_cons, List.map_nil, List.flatMap_cons, List.flatMap_nil, List.length_cons, List.length_nil, List.length_map, List.nil_append, List.append_nil, List.getElem?_cons_zero, List.getElem?_cons_succ, List.take_succ_cons, List.take_nil, List.not_mem_nil, ↓reduceIte, Bool.false_eq_true, and_true, not_false_eq_true, decide_false, Nat.le_refl, reduceCtorEq, Nat.zero_add, Nat.reduceEqDiff, Nat.reduceLT, Nat.reduceLeDiff, kt_nil, outOf_val, data_Ints, hl0, hl2, hdE, twice_ids, twice_ren]
    | ok t =>
      obtain ⟨_, hl2⟩ := hc t hr
      unfold w195e at hl2
      simp only [Int.natCast_zero] at hl2
      unfold fn195
      simp -implicitDefEqProofs only [code_ops, code_seq, code_ret, ops_cons, ops_nil, aOp, opd, upd_at, initTm_at, kt_cons, stepVal, aLen, endFn, aResults, aResult, tupled, code_loopF, gc_mk, isTrim_cons, gcIds_mk, newIds_nil, newIds_cons, gcMap_at, posOf, ren, renC, renO_nilm, idsV, idsC, idsO_nilm, wipeR_bool, isData_list_none, isData_int, isData_map, Option.getD_some, List.map_cons, List.map_nil, List.flatMap_cons, List.flatMap_nil, List.length_cons, List.length_nil, List.length_map, List.nil_append, List.append_nil, List.getElem?_cons_zero, List.getElem?_cons_succ, List.take_succ_cons, List.take_nil, List.not_mem_nil, ↓reduceIte, Bool.false_eq_true, and_true, not_false_eq_true, decide_false, Nat.le_refl, reduceCtorEq, Nat.zero_add, Nat.reduceEqDiff, Nat.reduceLT, Nat.reduceLeDiff, kt_nil, outOf_val, data_Ints, hl0, hl2, hdE, twice_ids, twice_ren]
end
section
theorem twice_flat : ∀ (e : List CExpr) (i j : Nat) (s : IM Unit), foldE twiceE e i s = foldE seenE (e.flatMap bindersX) j s := by
  have hidx : ∀ (ns : List Int) (i j : Nat) (s : IM Unit), foldE seenE ns i s = foldE seenE ns j s := by
    intro ns
    induction ns with
    | nil => intros; rfl
    | cons n ns ih =>
      intro i j s
      rw [foldE, foldE]
      have : seenE i s n = seenE j s n := rfl
      rw [this]
      cases seenE j s n with
      | error u => rfl
      | ok t => exact ih _ _ t
  have happ : ∀ (ns ms : List Int) (i : Nat) (s : IM Unit), foldE seenE (ns ++ ms) i s = (match foldE seenE ns i s with | .ok t => foldE seenE ms 0 t | .error u => .error u) := by
    intro ns
    induction ns with
    | nil => intro ms i s; exact hidx ms i 0 s
    | cons n ns ih =>
      intro ms i s
      rw [List.cons_append, foldE, foldE]
      cases seenE i s n with
      | error u => rfl
      | ok t => exact ih ms (i + 1) t
  intro e
  induction e with
  | nil => intros; rfl
  | cons x e ih =>
    intro i j s
    rw [List.flatMap_cons, happ, foldE, hidx _ j 0]
    unfold twiceE
    cases foldE seenE (bindersX x) 0 s with
    | error u => rfl
    | ok t => exact ih _ 0 t
theorem twice_nodup (e : List CExpr) : twiceOf e [] = !decide (e.flatMap bindersX).Nodup := by
  unfold twiceOf
  have hs := seen_err (e.flatMap bindersX) 0 []
  rw [← twice_flat e 0 0 []] at hs
  dsimp only [foldE]
  cases hq : foldE twiceE e 0 [] with
  | error u =>
    have : ¬ (e.flatMap bindersX).Nodup := fun h => hs.1 ⟨u, hq⟩ ⟨h, fun _ _ => rfl⟩
    simp [this]
  | ok t =>
    have : (e.flatMap bindersX).Nodup := by
      refine Classical.byContradiction fun h => ?_
      obtain ⟨u, hu⟩ := hs.2 fun hx => h hx.1
      rw [hq] at hu
      cases hu
    simp [this]
end
end Go.Abs
