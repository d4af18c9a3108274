/-
  PARTS OF A PROOF, joined: an abstract machine for quiet code, its evaluation, and what the seat's functions answer on it. Conditions: none.
-/
import Derived.Test.YtciacognbcgfiaaDoorCoreF
/-
  Loops that carry a state, and regions in all orders: the rules. Conditions: none.
-/
set_option linter.unusedVariables false
set_option linter.unusedSimpArgs false
namespace Go.Abs
def foldE {α σ ε : Type} (step : Nat → σ → α → Except ε σ) : List α → Nat → σ → Except ε σ
  | [], _, s => .ok s
  | x :: xs, i, s => match step i s x with | .ok s' => foldE step xs (i + 1) s' | .error e => .error e
theorem loopF_foldE {pure : Nat → Bool} {call : CallT} {b : Nat} {keep fk : List Nat} {id : Nat} {body : ACode} {α σ ε : Type} (xs : List α) (step : Nat → σ → α → Except ε σ) (C : σ → Nat → St) (T : σ → St) (Ret : ε → St → Prop) (Inv : σ → Nat → Prop) (s0 : σ) (hI : Inv s0 0)
    (h0 : ∀ (i : Nat) (hi : i < xs.length) (s s' : σ), Inv s i → step i s xs[i] = .ok s' → roundF pure call b keep fk body (C s i) = some (.normal, C s' (i + 1)) ∧ Inv s' (i + 1))
    (h1 : ∀ (i : Nat) (hi : i < xs.length) (s : σ) (e : ε), Inv s i → step i s xs[i] = .error e → ∃ R, Ret e R ∧ roundF pure call b keep fk body (C s i) = some (.ret, R))
    (hend : ∀ s, Inv s xs.length → roundF pure call b keep fk body (C s xs.length) = some (.exit id, T s)) :
    (∀ s, foldE step xs 0 s0 = .ok s → Inv s xs.length ∧ loopF pure call b keep fk id body (C s0 0) = some (.normal, T s)) ∧
    (∀ e, foldE step xs 0 s0 = .error e → ∃ R, Ret e R ∧ loopF pure call b keep fk id body (C s0 0) = some (.ret, R)) := by
  have key : ∀ k i s, i + k = xs.length → Inv s i →
      match foldE step (xs.drop i) i s with
      | .ok s' => Inv s' xs.length ∧ loopF pure call b keep fk id body (C s i) = some (.normal, T s')
      | .error e => ∃ R, Ret e R ∧ loopF pure call b keep fk id body (C s i) = some (.ret, R) := by
    intro k
    induction k with
    | zero =>
      intro i s hi hs
      rw [Nat.add_zero] at hi
      subst hi
      rw [List.drop_length]
      exact ⟨hs, loopF_exit (hend s hs)⟩
    | succ k ih =>
      intro i s hi hs
      have hlt : i < xs.length := by omega
      rw [List.drop_eq_getElem_cons hlt, foldE]
      cases hq : step i s xs[i] with
      | ok s' =>
        obtain ⟨h2, h3⟩ := h0 i hlt s s' hs hq
        rw [loopF_next h2]
        exact ih (i + 1) s' (by omega) h3
      | error e =>
        obtain ⟨R, h2, h3⟩ := h1 i hlt s e hs hq
        exact ⟨R, h2, loopF_ret h3⟩
  have := key xs.length 0 s0 (by omega) hI
  rw [List.drop_zero] at this
  exact ⟨fun s hs => by rw [hs] at this; exact this, fun e he => by rw [he] at this; exact this⟩
theorem foldE_foldl {α σ ε : Type} (step : σ → α → σ) : ∀ (xs : List α) (i : Nat) (s : σ), foldE (fun _ s x => (.ok (step s x) : Except ε σ)) xs i s = .ok (xs.foldl step s)
  | [], _, _ => rfl
  | x :: xs, i, s => by rw [foldE]; exact foldE_foldl step xs (i + 1) _
/-- A loop that never leaves early. -/
theorem loopF_fold {pure : Nat → Bool} {call : CallT} {b : Nat} {keep fk : List Nat} {id : Nat} {body : ACode} {α σ : Type} (xs : List α) (step : σ → α → σ) (C : σ → Nat → St) (T : σ → St) (Inv : σ → Nat → Prop) (s0 : σ) (hI : Inv s0 0)
    (h0 : ∀ (i : Nat) (hi : i < xs.length) (s : σ), Inv s i → roundF pure call b keep fk body (C s i) = some (.normal, C (step s xs[i]) (i + 1)) ∧ Inv (step s xs[i]) (i + 1))
    (hend : ∀ s, Inv s xs.length → roundF pure call b keep fk body (C s xs.length) = some (.exit id, T s)) :
    Inv (xs.foldl step s0) xs.length ∧ loopF pure call b keep fk id body (C s0 0) = some (.normal, T (xs.foldl step s0)) := by
  have := loopF_foldE (pure := pure) (call := call) (b := b) (keep := keep) (fk := fk) (id := id) (body := body) (ε := Unit) xs (fun _ s x => .ok (step s x)) C T (fun _ _ => False) Inv s0 hI
    (by
      intro i hi s s' hs hq
      injection hq with hq
      subst hq
      exact h0 i hi s hs)
    (by intro i hi s e _ hq; cases hq) hend
  exact this.1 _ (foldE_foldl step xs 0 s0)
theorem mix_of {keep : List Nat} {l : List Step} {needs : List (List Nat)} {s : St} {r : AExit × St} (hne : runsL l needs ≠ []) (h : ∀ σ ∈ runsL l needs, (aOps (fun _ => false) noCall σ s).map (gcE s.h.length keep) = some r) : aMix keep l needs s = some r := by
  unfold aMix
  have he : ∃ r, ∀ σ ∈ runsL l needs, (aOps (fun _ => false) noCall σ s).map (gcE s.h.length keep) = some r := ⟨r, h⟩
  rw [dif_pos he]
  obtain ⟨σ, hσ⟩ := List.exists_mem_of_ne_nil _ hne
  have h1 := Classical.choose_spec he σ hσ
  rw [h σ hσ] at h1
  injection h1 with h1
  rw [h1]
end Go.Abs
/-
  The check that a list is a tree. Conditions: none.
-/
set_option linter.unusedVariables false
set_option linter.unusedSimpArgs false
set_option maxRecDepth 100000
set_option maxHeartbeats 4000000
namespace Go.Abs
abbrev DP := List Int × List Int
def kidStep (i : Nat) (k : Int) (dp : DP) : DP := (dp.1.set i (max (dp.1.getD i 0) (dp.1.getD k.toNat 0)), dp.2.set k.toNat (dp.2.getD k.toNat 0 + 1))
def kidE (i : Nat) (_ : Nat) (dp : DP) (k : Int) : Except Unit DP := if k < 0 ∨ (i : Int) ≤ k then .error () else .ok (kidStep i k dp)
def nodeE (i : Nat) (dp : DP) (x : CExpr) : Except Unit DP :=
  match foldE (kidE i) x.kids 0 dp with
  | .error e => .error e
  | .ok dp => .ok (dp.1.set i (dp.1.getD i 0 + 1), dp.2)
def treeRun (e : List CExpr) : Except Unit DP := foldE nodeE e 0 (List.replicate e.length 0, List.replicate e.length 0)
def parBad (n : Nat) (i : Nat) (p : Int) : Bool := (p == 1) != decide ((i : Int) < (n : Int) - 1)
def treeErr (e : List CExpr) : Int :=
  if (4096 : Int) < e.length then 2 else if e.length = 0 then 3 else
  match treeRun e with
  | .error _ => 3
  | .ok dp => if (findFrom (fun i p => if parBad e.length i p = true then some () else none) dp.2 0).isSome = true then 3 else if 400 < dp.1.getD (e.length - 1) 0 then 2 else 0
/-- All numbers of a list lie from 0 to c. -/
def Bd (c : Int) (l : List Int) : Prop := ∀ x ∈ l, 0 ≤ x ∧ x ≤ c
theorem Bd.get {c : Int} {l : List Int} (h : Bd c l) (hc : 0 ≤ c) (i : Nat) : 0 ≤ l.getD i 0 ∧ l.getD i 0 ≤ c := by
  rw [List.getD_eq_getElem?_getD]
  cases hq : l[i]? with
  | none => exact ⟨by simp, by simpa using hc⟩
  | some x => exact h x (List.mem_of_getElem? hq)
theorem Bd.set {c : Int} {l : List Int} (h : Bd c l) (i : Nat) (v : Int) (hv : 0 ≤ v ∧ v ≤ c) : Bd c (l.set i v) := by
  intro x hx
  rcases List.mem_or_eq_of_mem_set hx with hx | rfl
  · exact h x hx
  · exact hv
theorem Bd.mono {c d : Int} {l : List Int} (h : Bd c l) (hcd : c ≤ d) : Bd d l := fun x hx => ⟨(h x hx).1, by have := (h x hx).2; omega⟩
theorem Bd.zeros (n : Nat) : Bd 0 (List.replicate n 0) := by
  intro x hx
  have := List.eq_of_mem_replicate hx
  omega
/-- The state of the check: lengths and bounds. -/
structure DPok (n : Nat) (d c : Int) (dp : DP) : Prop where
  l1 : dp.1.length = n
  l2 : dp.2.length = n
  b1 : Bd d dp.1
  b2 : Bd c dp.2
theorem DPok.kid {n : Nat} {d c : Int} {dp : DP} (h : DPok n d c dp) (hd : 0 ≤ d) (hc : 0 ≤ c) (i : Nat) (k : Int) : DPok n d (c + 1) (kidStep i k dp) :=
  ⟨by simp [kidStep, h.l1], by simp [kidStep, h.l2], by
    have h1 := h.b1.get hd i
    have h2 := h.b1.get hd k.toNat
    exact h.b1.set _ _ (by omega), by
    have h1 := h.b2.get hc k.toNat
    exact (h.b2.mono (by omega)).set _ _ (by omega)⟩
section
variable {L : Lib} (hL : Plain L)
def t190a (e : List CExpr) (i : Nat) (x : CExpr) (s : DP) (j : Nat) : St := ⟨kt [0, 3, 4, 5, 23, 24, 25, 31, 32, 33] [.list (e.map encExpr) none, .vec 0 e.length, .vec 1 e.length, .int .i64 i, .list (e.map encExpr) none, .int .i64 e.length, .int .i64 i, .list (x.kids.map encI) none, .int .i64 x.kids.length, .int .i64 j],
  [.vec (s.1.map encI) 1, .vec (s.2.map encI) 1, .box [.int .i64 x.op, .int .i64 x.n, .list (x.binds.map encI) none, .list (x.kids.map encI) none, .list (x.alts.map encAlt) none]]⟩
def t190b (e : List CExpr) (i : Nat) (x : CExpr) (v : AVal) (s : DP) : St := ⟨kt [0, 2, 3, 4, 5, 23, 24, 25] [.list (e.map encExpr) none, v, .vec 0 e.length, .vec 1 e.length, .int .i64 i, .list (e.map encExpr) none, .int .i64 e.length, .int .i64 i],
  [.vec (s.1.map encI) 1, .vec (s.2.map encI) 1, .box [.int .i64 x.op, .int .i64 x.n, .list (x.binds.map encI) none, .list (x.kids.map encI) none, .list (x.alts.map encAlt) none]]⟩
theorem tree_l0 (e : List CExpr) (i : Nat) (hi : i < e.length) (x : CExpr) (hk : x.kids.length < 2 ^ 30) (dp : DP) (d c : Int) (hd : 0 ≤ d) (hd2 : d < 2 ^ 62) (hc : 0 ≤ c) (hc2 : c + 2 ^ 30 < 2 ^ 62) (hok : DPok e.length d c dp) :
    (∀ s, foldE (kidE i) x.kids 0 dp = .ok s → DPok e.length d (c + x.kids.length) s ∧ loopF L.pure (call L) 3 [0, 3, 4, 5, 23, 24, 25, 31, 32, 33] [0, 2, 3, 4, 5, 23, 24, 25] 2 fn190_l0 (t190a e i x dp 0) = some (.normal, t190b e i x .junk s)) ∧
    (∀ r, foldE (kidE i) x.kids 0 dp = .error r → ∃ R, (∃ s : DP, R = t190b e i x (.int .i64 3) s) ∧ loopF L.pure (call L) 3 [0, 3, 4, 5, 23, 24, 25, 31, 32, 33] [0, 2, 3, 4, 5, 23, 24, 25] 2 fn190_l0 (t190a e i x dp 0) = some (.ret, R)) := by
  have hdE := data_Exprs e
  refine loopF_foldE x.kids (kidE i) (t190a e i x) (t190b e i x .junk) (fun _ R => ∃ s : DP, R = t190b e i x (.int .i64 3) s) (fun s j => DPok e.length d (c + (j : Nat)) s) dp (by simpa using hok) ?_ ?_ ?_
  · intro j hj s s' hs hq
    obtain ⟨h1, h2, h3⟩ := round_c encI x.kids hk j hj
    unfold kidE at hq
    split at hq
    · cases hq
    · rename_i hb
      injection hq with hq
      subst hq
      refine ⟨?_, by have := hs.kid hd (by omega) i x.kids[j]; rw [show c + ((j + 1 : Nat) : Int) = c + (j : Nat) + 1 by omega]; exact this⟩
      generalize x.kids[j] = k at *
      obtain ⟨m, rfl⟩ : ∃ m : Nat, k = m := ⟨k.toNat, by omega⟩
      have b1 : ¬ ((m : Int) < 0) := by omega
      have b2 : ¬ ((i : Int) ≤ m) := by omega
      have hm : m < e.length := by omega
      have b3 : ((m : Int) < e.length) := by omega
      have b4 : ((i : Int) < e.length) := by omega
      have g1 := getI s.2 m (by rw [hs.l2]; exact hm)
      have g2 := getI s.1 i (by rw [hs.l1]; exact hi)
      have g3 := getI s.1 m (by rw [hs.l1]; exact hm)
      have bb := hs.b2.get (by omega) m
      have w1 : IntKind.i64.wrap (s.2.getD m 0 + 1) = s.2.getD m 0 + 1 := wrap64 (by omega) (by omega)
      have hmx := minMax_max (s.1.getD i 0) (s.1.getD m 0)
      have p1 := putM encI s.2 m (s.2.getD m 0 + 1) (by rw [hs.l2]; exact hm)
      have p2 := putM encI s.1 i (max (s.1.getD i 0) (s.1.getD m 0)) (by rw [hs.l1]; exact hi)
      have l1 : m + 1 ≤ s.2.length := by rw [hs.l2]; omega
      have l2 : i + 1 ≤ s.1.length := by rw [hs.l1]; omega
      simp only [encI] at p1 p2
      unfold fn190_l0 kidStep t190a
      simp -implicitDefEqProofs only [code_skip, code_ops, code_draw, code_seq, code_cond, code_block, ops_cons, ops_cons_g, ops_nil, aOp, opd, upd_at, upd_none, kt_cons, stepVal, stepHeap, aBin, aInt, aIndexList, isShift, aWanted, aLoad1, aStore, leaf, acells_int, cellsSet, gc_mk, isTrim_cons, gcIds_mk, newIds_nil, newIds_cons, gcMap_at, posOf, ren, renC, renO_box, idsV, idsC, idsO_box, draw_eq, opsH_nil, opsH_cons, isLoud, isData_list_none, isData_int, beq_self_eq_true, List.map_cons, List.map_nil, List.flatMap_cons, List.flatMap_nil, List.length_cons, List.length_nil, List.length_map, List.cons_append, List.nil_append, List.append_nil, List.append_assoc, List.getElem?_cons_zero, List.getElem?_cons_succ, List.set_cons_zero, List.set_cons_succ, List.take_succ_cons, List.take_nil, List.all_cons, List.all_nil, List.not_mem_nil, ↓reduceIte, Bool.and_true, Bool.false_eq_true, and_true, not_false_eq_true, decide_true, decide_false, and_self, Nat.le_refl, reduceCtorEq, Nat.zero_add, Nat.reduceEqDiff, Nat.reduceAdd, Nat.reduceLT, Nat.reduceLeDiff, Int.toNat_natCast, Int.natCast_nonneg, roundF_eq, checksP_nil, drawTo_if, kt_nil, ge_iff_le, encI_eq, data_Ints, data_Alts, isData_vec, idsO_vec, renO_vec, ids_Ints, ren_Ints, Nat.mul_one, h1, h2, h3, b1, b2, b3, b4, g1, g2, g3, w1, hmx, p1, p2, l1, l2, hdE]
  · intro j hj s er hs hq
    obtain ⟨h1, h2, h3⟩ := round_c encI x.kids hk j hj
    unfold kidE at hq
    split at hq
    · rename_i hb
      refine ⟨_, ⟨s, rfl⟩, ?_⟩
      generalize x.kids[j] = k at *
      by_cases b1 : k < 0
      · unfold fn190_l0 t190a t190b
        simp -implicitDefEqProofs only [code_skip, code_ops, code_seq, code_cond, code_block, code_ret, ops_cons, ops_cons_g, ops_nil, aOp, opd, upd_at, kt_cons, stepVal, aBin, aInt, aIndexList, isShift, aWanted, aLoad1, acells_int, gcE, gc_mk, isTrim_cons, gcIds_mk, newIds_nil, newIds_cons, gcMap_at, posOf, ren, renC, renO_box, idsV, idsC, idsO_box, isData_list_none, isData_int, beqTF, List.map_cons, List.map_nil, List.flatMap_cons, List.flatMap_nil, List.length_cons, List.length_nil, List.cons_append, List.nil_append, List.append_nil, List.getElem?_cons_zero, List.take_succ_cons, List.take_nil, List.not_mem_nil, ↓reduceIte, Bool.false_eq_true, and_true, not_false_eq_true, decide_true, decide_false, Nat.le_refl, reduceCtorEq, Nat.zero_add, Nat.reduceEqDiff, Nat.reduceAdd, Nat.reduceLT, Nat.reduceLeDiff, Int.toNat_natCast, Int.natCast_nonneg, roundF_eq, kt_nil, encI_eq, data_Ints, data_Alts, isData_vec, idsO_vec, renO_vec, ids_Ints, ren_Ints, h1, h2, h3, b1, hdE]
      · have b2 : (i : Int) ≤ k := by omega
        unfold fn190_l0 t190a t190b
        simp -implicitDefEqProofs only [code_skip, code_ops, code_seq, code_cond, code_block, code_ret, ops_cons, ops_cons_g, ops_nil, aOp, opd, upd_at, kt_cons, stepVal, aBin, aInt, aIndexList, isShift, aWanted, aLoad1, acells_int, gcE, gc_mk, isTrim_cons, gcIds_mk, newIds_nil, newIds_cons, gcMap_at, posOf, ren, renC, renO_box, idsV, idsC, idsO_box, isData_list_none, isData_int, beq_self_eq_true, List.map_cons, List.map_nil, List.flatMap_cons, List.flatMap_nil, List.length_cons, List.length_nil, List.cons_append, List.nil_append, List.append_nil, List.getElem?_cons_zero, List.take_succ_cons, List.take_nil, List.not_mem_nil, ↓reduceIte, Bool.false_eq_true, and_true, not_false_eq_true, decide_true, decide_false, Nat.le_refl, reduceCtorEq, Nat.zero_add, Nat.reduceEqDiff, Nat.reduceAdd, Nat.reduceLT, Nat.reduceLeDiff, Int.toNat_natCast, Int.natCast_nonneg, roundF_eq, kt_nil, ge_iff_le, encI_eq, data_Ints, data_Alts, isData_vec, idsO_vec, renO_vec, ids_Ints, ren_Ints, h1, h2, h3, b1, b2, hdE]
    · cases hq
  · intro s hs
    have h0 := append_c x.kids.length
    unfold fn190_l0 t190a t190b
    simp -implicitDefEqProofs only [code_ops, code_seq, code_cond, code_exit, ops_cons, ops_nil, aOp, opd, upd_at, kt_cons, stepVal, aBin, aInt, isShift, gcE, gc_mk, isTrim_cons, gcIds_mk, newIds_nil, newIds_cons, gcMap_at, posOf, ren, renC, renO_box, idsV, idsC, idsO_box, isData_list_none, isData_int, isData_junk, List.map_cons, List.map_nil, List.flatMap_cons, List.flatMap_nil, List.length_cons, List.length_nil, List.cons_append, List.nil_append, List.append_nil, List.take_succ_cons, List.take_nil, List.not_mem_nil, ↓reduceIte, Bool.false_eq_true, and_true, not_false_eq_true, decide_false, Nat.le_refl, reduceCtorEq, Nat.zero_add, Nat.reduceEqDiff, Nat.reduceAdd, Nat.reduceLT, Nat.reduceLeDiff, roundF_eq, kt_nil, data_Ints, data_Alts, isData_vec, idsO_vec, renO_vec, ids_Ints, ren_Ints, h0, hdE]
def t190c (e : List CExpr) (s : DP) (i : Nat) : St := ⟨kt [0, 3, 4, 23, 24, 25] [.list (e.map encExpr) none, .vec 0 e.length, .vec 1 e.length, .list (e.map encExpr) none, .int .i64 e.length, .int .i64 i], [.vec (s.1.map encI) 1, .vec (s.2.map encI) 1]⟩
def t190d (e : List CExpr) (v : AVal) (s : DP) : St := ⟨kt [0, 2, 3, 4] [.list (e.map encExpr) none, v, .vec 0 e.length, .vec 1 e.length], [.vec (s.1.map encI) 1, .vec (s.2.map encI) 1]⟩
theorem tree_l1 (e : List CExpr) (he : e.length ≤ 4096) (hf : ∀ x ∈ e, NodeFit x) :
    (∀ s, treeRun e = .ok s → DPok e.length e.length (e.length * 2 ^ 30) s ∧ loopF L.pure (call L) 2 [0, 3, 4, 23, 24, 25] [0, 2, 3, 4] 0 fn190_l1 (t190c e (List.replicate e.length 0, List.replicate e.length 0) 0) = some (.normal, t190d e .junk s)) ∧
    (∀ r, treeRun e = .error r → ∃ R, (∃ s : DP, R = t190d e (.int .i64 3) s) ∧ loopF L.pure (call L) 2 [0, 3, 4, 23, 24, 25] [0, 2, 3, 4] 0 fn190_l1 (t190c e (List.replicate e.length 0, List.replicate e.length 0) 0) = some (.ret, R)) := by
  have hdE := data_Exprs e
  refine loopF_foldE e nodeE (t190c e) (t190d e .junk) (fun _ R => ∃ s : DP, R = t190d e (.int .i64 3) s) (fun s i => DPok e.length i (i * 2 ^ 30) s) _ ?_ ?_ ?_ ?_
  · exact ⟨by simp, by simp, Bd.zeros _, Bd.zeros _⟩
  · intro i hi s s' hs hq
    obtain ⟨h1, h2, h3⟩ := round_c encExpr e (by omega) i hi
    have hx := hf e[i] (List.getElem_mem hi)
    obtain ⟨hl, _⟩ := tree_l0 (L := L) e i hi e[i] hx.kids s i (i * 2 ^ 30) (by omega) (by omega) (by omega) (by omega) hs
    generalize e[i] = x at *
    unfold nodeE at hq
    cases hr : foldE (kidE i) x.kids 0 s with
    | error _ => rw [hr] at hq; cases hq
    | ok t =>
      rw [hr] at hq
      injection hq with hq
      subst hq
      obtain ⟨ht, hl⟩ := hl t hr
      have hgt := ht.b1.get (by omega) i
      have hlen := hx.kids
      refine ⟨?_, ⟨by simp [ht.l1], ht.l2, (ht.b1.mono (by omega)).set _ _ (by omega), ht.b2.mono (by omega)⟩⟩
      have g2 := getI t.1 i (by rw [ht.l1]; exact hi)
      have w1 : IntKind.i64.wrap (t.1.getD i 0 + 1) = t.1.getD i 0 + 1 := wrap64 (by omega) (by omega)
      have p2 := putM encI t.1 i (t.1.getD i 0 + 1) (by rw [ht.l1]; exact hi)
      have l2 : i + 1 ≤ t.1.length := by rw [ht.l1]; omega
      simp only [encI] at p2
      unfold t190a t190b at hl
      simp only [Int.natCast_zero] at hl
      unfold fn190_l1 t190c
      simp -implicitDefEqProofs only [code_skip, code_ops, code_seq, code_cond, code_block, ops_cons, ops_nil, aOp, opd, upd_at, upd_none, kt_cons, stepVal, stepHeap, aBin, aLen, aInt, aIndexList, isShift, aLoad1, aStore, readAt, aField, leaf, acells_agg, acells_int, cellsSet, code_loopF, gc_mk, isTrim_cons, gcIds_mk, newIds_nil, newIds_cons, gcMap_at, posOf, ren, renC, renO_box, idsV, idsC, idsO_box, isData_list_none, isData_int, Option.map_some, List.map_cons, List.map_nil, List.flatMap_cons, List.flatMap_nil, List.length_cons, List.length_nil, List.length_map, List.cons_append, List.nil_append, List.append_nil, List.append_assoc, List.getElem?_cons_zero, List.getElem?_cons_succ, List.set_cons_zero, List.set_cons_succ, List.take_succ_cons, List.take_zero, List.drop_succ_cons, List.drop_zero, List.take_nil, List.drop_nil, List.all_cons, List.all_nil, List.not_mem_nil, ↓reduceIte, Bool.and_true, Bool.false_eq_true, and_true, not_false_eq_true, decide_true, decide_false, and_self, Nat.le_refl, reduceCtorEq, Nat.zero_add, Nat.reduceEqDiff, Nat.reduceAdd, Nat.reduceLT, Nat.reduceLeDiff, Int.toNat_natCast, Int.natCast_nonneg, roundF_eq, kt_nil, encExpr_eq, data_Ints, data_Alts, isData_vec, idsO_vec, renO_vec, ids_Ints, ren_Ints, Nat.mul_one, h1, h2, h3, g2, w1, p2, l2, hl, hdE]
  · intro i hi s r hs hq
    obtain ⟨h1, h2, h3⟩ := round_c encExpr e (by omega) i hi
    have hx := hf e[i] (List.getElem_mem hi)
    obtain ⟨_, hl⟩ := tree_l0 (L := L) e i hi e[i] hx.kids s i (i * 2 ^ 30) (by omega) (by omega) (by omega) (by omega) hs
    generalize e[i] = x at *
    unfold nodeE at hq
    cases hr : foldE (kidE i) x.kids 0 s with
    | ok t => rw [hr] at hq; cases hq
    | error u =>
      obtain ⟨R, ⟨t, rfl⟩, hl⟩ := hl u hr
      refine ⟨_, ⟨t, rfl⟩, ?_⟩
      unfold t190a t190b at hl
      simp only [Int.natCast_zero] at hl
      unfold fn190_l1 t190c t190d
      simp -implicitDefEqProofs only [code_skip, code_ops, code_seq, code_cond, code_block, ops_cons, ops_nil, aOp, opd, upd_at, upd_none, kt_cons, stepVal, stepHeap, aBin, aLen, aInt, aIndexList, isShift, aLoad1, aStore, readAt, aField, leaf, acells_agg, cellsSet, code_loopF, gcE, gc_mk, isTrim_cons, gcIds_mk, newIds_nil, newIds_cons, gcMap_at, posOf, ren, renC, renO_box, idsV, idsC, idsO_box, isData_list_none, isData_int, Option.map_some, List.map_cons, List.map_nil, List.flatMap_cons, List.flatMap_nil, List.length_cons, List.length_nil, List.length_map, List.cons_append, List.nil_append, List.append_nil, List.getElem?_cons_zero, List.getElem?_cons_succ, List.set_cons_zero, List.set_cons_succ, List.take_succ_cons, List.take_zero, List.drop_succ_cons, List.drop_zero, List.take_nil, List.drop_nil, List.all_cons, List.all_nil, List.not_mem_nil, ↓reduceIte, Bool.and_true, Bool.false_eq_true, and_true, not_false_eq_true, decide_true, decide_false, and_self, Nat.le_refl, reduceCtorEq, Nat.zero_add, Nat.reduceEqDiff, Nat.reduceAdd, Nat.reduceLT, Nat.reduceLeDiff, Int.toNat_natCast, Int.natCast_nonneg, roundF_eq, kt_nil, encExpr_eq, data_Ints, data_Alts, isData_vec, idsO_vec, renO_vec, ids_Ints, ren_Ints, h1, h2, h3, hl, hdE]
  · intro s hs
    have h0 := append_c e.length
    unfold fn190_l1 t190c t190d
    simp -implicitDefEqProofs only [code_ops, code_seq, code_cond, code_exit, ops_cons, ops_nil, aOp, opd, upd_at, kt_cons, stepVal, aBin, aInt, isShift, gcE, gc_mk, isTrim_cons, gcIds_mk, newIds_nil, newIds_cons, gcMap_at, posOf, ren, renC, idsV, idsC, isData_list_none, isData_junk, List.map_cons, List.map_nil, List.flatMap_cons, List.flatMap_nil, List.length_cons, List.length_nil, List.cons_append, List.nil_append, List.append_nil, List.take_succ_cons, List.take_nil, List.not_mem_nil, ↓reduceIte, Bool.false_eq_true, and_true, not_false_eq_true, decide_false, Nat.le_refl, reduceCtorEq, Nat.zero_add, Nat.reduceEqDiff, Nat.reduceAdd, Nat.reduceLT, Nat.reduceLeDiff, roundF_eq, kt_nil, isData_vec, idsO_vec, renO_vec, ids_Ints, ren_Ints, h0, hdE]
theorem tree_l2 (e : List CExpr) (he : e.length ≤ 4096) (s : DP) (hs : s.2.length = e.length) :
    loopF L.pure (call L) 2 [0, 3, 70, 71, 72] [0, 2, 3] 4 fn190_l2 ⟨kt [0, 3, 70, 71, 72] [.list (e.map encExpr) none, .vec 0 e.length, .vec 1 e.length, .int .i64 e.length, .int .i64 ((0 : Nat) : Int)], [.vec (s.1.map encI) 1, .vec (s.2.map encI) 1]⟩ =
    some (fromFind (fun _ => ⟨kt [0, 2, 3] [.list (e.map encExpr) none, .int .i64 3, .vec 0 e.length], [.vec (s.1.map encI) 1, .vec (s.2.map encI) 1]⟩) ⟨kt [0, 2, 3] [.list (e.map encExpr) none, .junk, .vec 0 e.length], [.vec (s.1.map encI) 1, .vec (s.2.map encI) 1]⟩
      (findFrom (fun i p => if parBad e.length i p = true then some () else none) s.2 0)) := by
  have hdE := data_Exprs e
  have hround : ∀ (i : Nat) (hi : i < s.2.length), roundF L.pure (call L) 2 [0, 3, 70, 71, 72] [0, 2, 3] fn190_l2 ⟨kt [0, 3, 70, 71, 72] [.list (e.map encExpr) none, .vec 0 e.length, .vec 1 e.length, .int .i64 e.length, .int .i64 i], [.vec (s.1.map encI) 1, .vec (s.2.map encI) 1]⟩ =
      some (if parBad e.length i s.2[i] = true then (.ret, ⟨kt [0, 2, 3] [.list (e.map encExpr) none, .int .i64 3, .vec 0 e.length], [.vec (s.1.map encI) 1, .vec (s.2.map encI) 1]⟩) else
        (.normal, ⟨kt [0, 3, 70, 71, 72] [.list (e.map encExpr) none, .vec 0 e.length, .vec 1 e.length, .int .i64 e.length, .int .i64 ((i + 1 : Nat) : Int)], [.vec (s.1.map encI) 1, .vec (s.2.map encI) 1]⟩)) := by
    intro i hi
    obtain ⟨h1, h2, h3⟩ := round_c encI s.2 (by omega) i hi
    rw [hs] at h1
    have w : IntKind.i64.wrap ((e.length : Int) - 1) = (e.length : Int) - 1 := wrap64 (by omega) (by omega)
    have hge : s.2.getD i 0 = s.2[i] := by simp [hi]
    generalize s.2[i] = p at *
    unfold parBad
    by_cases hlt : (i : Int) < (e.length : Int) - 1 <;> cases h5 : (p == 1) <;> unfold fn190_l2 <;> simp -implicitDefEqProofs only [code_skip, code_ops, code_seq, code_cond, code_block, code_ret, ops_cons, ops_nil, aOp, opd, upd_at, kt_cons, stepVal, aBin, aLen, aInt, aEq, aIndexList, isShift, aLoad1, gcE, gc_mk, isTrim_cons, gcIds_mk, newIds_nil, newIds_cons, gcMap_at, posOf, ren, renC, idsV, idsC, isData_list_none, isData_int, beqTF, beqFT, beq_self_eq_true, Option.map_some, List.map_cons, List.map_nil, List.flatMap_cons, List.flatMap_nil, List.length_cons, List.length_nil, List.length_map, List.cons_append, List.nil_append, List.append_nil, List.getElem?_cons_zero, List.getElem?_cons_succ, List.take_succ_cons, List.take_nil, List.not_mem_nil, ↓reduceIte, Bool.not_true, Bool.not_false, Bool.false_eq_true, and_true, not_false_eq_true, decide_true, decide_false, and_self, Nat.le_refl, reduceCtorEq, Nat.zero_add, Nat.reduceEqDiff, Nat.reduceAdd, Nat.reduceLT, Nat.reduceLeDiff, Int.toNat_natCast, Int.natCast_nonneg, roundF_eq, kt_nil, encI_eq, isData_vec, idsO_vec, renO_vec, ids_Ints, ren_Ints, Nat.mul_one, h1, h2, h3, w, hlt, h5, hdE, bne]
  refine loopF_find s.2 (fun i p => if parBad e.length i p = true then some () else none) (fun i => ⟨kt [0, 3, 70, 71, 72] [.list (e.map encExpr) none, .vec 0 e.length, .vec 1 e.length, .int .i64 e.length, .int .i64 i], _⟩) _ _ ?_ ?_ ?_
  · intro i hi hq
    rw [hround i hi, if_neg]
    intro hx
    simp [hx] at hq
  · intro i hi r hq
    cases hx : parBad e.length i s.2[i] with
    | false => simp [hx] at hq
    | true => rw [hround i hi, if_pos hx]
  · have h0 := append_c e.length
    rw [hs]
    unfold fn190_l2
    simp -implicitDefEqProofs only [code_ops, code_seq, code_cond, code_exit, ops_cons, ops_nil, aOp, opd, upd_at, kt_cons, stepVal, aBin, aInt, isShift, gcE, gc_mk, isTrim_cons, gcIds_mk, newIds_nil, newIds_cons, gcMap_at, posOf, ren, renC, idsV, idsC, isData_list_none, isData_junk, List.map_cons, List.map_nil, List.flatMap_cons, List.flatMap_nil, List.length_cons, List.length_nil, List.nil_append, List.append_nil, List.take_succ_cons, List.take_nil, List.not_mem_nil, ↓reduceIte, Bool.false_eq_true, and_true, not_false_eq_true, decide_false, Nat.le_refl, reduceCtorEq, Nat.zero_add, Nat.reduceEqDiff, Nat.reduceAdd, Nat.reduceLT, Nat.reduceLeDiff, roundF_eq, kt_nil, isData_vec, idsO_vec, renO_vec, ids_Ints, ren_Ints, h0, hdE]
theorem tree_orders : ordersL [[], [0], [1, 1], [], [3], [4, 4], [2, 0, 1, 2], [5, 6, 0, 1, 2, 3, 4, 5, 6]] 8 (List.replicate 8 false) = [[0, 1, 2, 3, 4, 5, 6, 7], [0, 1, 2, 3, 4, 6, 5, 7], [0, 1, 2, 3, 6, 4, 5, 7], [0, 1, 2, 6, 3, 4, 5, 7], [0, 1, 3, 2, 4, 5, 6, 7], [0, 1, 3, 2, 4, 6, 5, 7], [0, 1, 3, 2, 6, 4, 5, 7], [0, 1, 3, 4, 2, 5, 6, 7], [0, 1, 3, 4, 2, 6, 5, 7], [0, 1, 3, 4, 5, 2, 6, 7], [0, 3, 1, 2, 4, 5, 6, 7], [0, 3, 1, 2, 4, 6, 5, 7], [0, 3, 1, 2, 6, 4, 5, 7], [0, 3, 1, 4, 2, 5, 6, 7], [0, 3, 1, 4, 2, 6, 5, 7], [0, 3, 1, 4, 5, 2, 6, 7], [0, 3, 4, 1, 2, 5, 6, 7], [0, 3, 4, 1, 2, 6, 5, 7], [0, 3, 4, 1, 5, 2, 6, 7], [0, 3, 4, 5, 1, 2, 6, 7], [3, 0, 1, 2, 4, 5, 6, 7], [3, 0, 1, 2, 4, 6, 5, 7], [3, 0, 1, 2, 6, 4, 5, 7], [3, 0, 1, 4, 2, 5, 6, 7], [3, 0, 1, 4, 2, 6, 5, 7], [3, 0, 1, 4, 5, 2, 6, 7], [3, 0, 4, 1, 2, 5, 6, 7], [3, 0, 4, 1, 2, 6, 5, 7], [3, 0, 4, 1, 5, 2, 6, 7], [3, 0, 4, 5, 1, 2, 6, 7], [3, 4, 0, 1, 2, 5, 6, 7], [3, 4, 0, 1, 2, 6, 5, 7], [3, 4, 0, 1, 5, 2, 6, 7], [3, 4, 0, 5, 1, 2, 6, 7], [3, 4, 5, 0, 1, 2, 6, 7]] := by
  decide
theorem zerosI (n : Nat) : List.replicate n (AVal.int .i64 0) = (List.replicate n 0).map encI := by
  rw [List.map_replicate]
  rfl
theorem tree_mk (e : List CExpr) (he : e.length ≤ 4096) (tm : Tmps) (h0 : tm 0 = .list (e.map encExpr) none) :
    aCode L.pure (call L) fn190_m ⟨tm, []⟩ = some (.normal, ⟨kt [0, 3, 4] [.list (e.map encExpr) none, .vec 0 e.length, .vec 1 e.length], [.vec ((List.replicate e.length 0).map encI) 1, .vec ((List.replicate e.length 0).map encI) 1]⟩) := by
  have hdE := data_Exprs e
  have hn : ((e.length : Int) ≤ 1073741824) := by omega
  unfold fn190_m
  rw [code_mdraw]
  refine mix_of ?_ ?_
  · unfold runsL
    simp only [List.length_cons, List.length_nil, Nat.reduceAdd, tree_orders]
    simp
  · intro σ hσ
    unfold runsL at hσ
    simp only [List.length_cons, List.length_nil, Nat.reduceAdd, tree_orders] at hσ
    obtain ⟨is, his, rfl⟩ := List.mem_map.1 hσ
    simp only [List.mem_cons, List.not_mem_nil, or_false] at his
    have hz := zerosI e.length
    clear hσ
    rcases his with rfl | rfl | rfl | rfl | rfl | rfl | rfl | rfl | rfl | rfl | rfl | rfl | rfl | rfl | rfl | rfl | rfl | rfl | rfl | rfl | rfl | rfl | rfl | rfl | rfl | rfl | rfl | rfl | rfl | rfl | rfl | rfl | rfl | rfl | rfl <;>
      simp -implicitDefEqProofs only [ops_cons, ops_nil, aOp, opd, upd_at, stepVal, aLen, gcE, gc_mk, isTrim_cons, gcIds_mk, newIds_nil, newIds_cons, gcMap_at, posOf, ren, renC, idsV, idsC, isData_list_none, Option.map_some, Option.getD_some, List.map_cons, List.map_nil, List.flatMap_cons, List.flatMap_nil, List.length_cons, List.length_nil, List.length_map, List.cons_append, List.nil_append, List.append_nil, List.getElem?_cons_zero, List.getElem?_cons_succ, List.take_zero, List.mem_cons, List.not_mem_nil, ↓reduceIte, Bool.false_eq_true, or_false, not_false_eq_true, decide_false, and_self, Nat.le_refl, Nat.zero_le, reduceCtorEq, Nat.zero_add, Nat.reduceEqDiff, Nat.reduceAdd, Nat.reduceLT, Int.toNat_natCast, Int.natCast_nonneg, isData_vec, renO_vec, ren_Ints, Int.le_refl, List.filterMap_cons, List.filterMap_nil, h0, hn, hz, hdE]
include hL
theorem tree_ok (h190 : L.fns 190 = some fn190) (e : List CExpr) (hf : ∀ x ∈ e, NodeFit x) (hlen : e.length < 2 ^ 30) (h : Heap) :
    pcall L 190 [.list (e.map encExpr) none] h = some (.val (.int .i64 (treeErr e)), h) := by
  have hdE := data_Exprs e
  refine pcall_fn hL h190 rfl ?_ h
  unfold treeErr
  by_cases h1 : (4096 : Int) < e.length
  · unfold fn190
    simp -implicitDefEqProofs only [code_ops, code_seq, code_cond, code_ret, ops_cons, ops_nil, aOp, opd, upd_at, initTm_at, stepVal, aBin, aLen, aInt, isShift, endFn, aResults, aResult, tupled, wipeR_int, Option.getD_some, List.length_map, List.getElem?_cons_zero, ↓reduceIte, Bool.false_eq_true, decide_true, reduceCtorEq, gt_iff_lt, outOf_val, h1]
  by_cases h2 : e.length = 0
  · have h2' : ((e.length : Int) == 0) = true := by simp [h2]
    rw [if_neg h1, if_pos h2]
    unfold fn190
    simp -implicitDefEqProofs only [code_skip, code_ops, code_seq, code_cond, code_ret, ops_cons, ops_nil, aOp, opd, upd_at, initTm_at, stepVal, aBin, aLen, aInt, isShift, endFn, aResults, aResult, tupled, wipeR_int, Option.getD_some, List.length_map, List.getElem?_cons_zero, ↓reduceIte, Bool.false_eq_true, decide_false, reduceCtorEq, gt_iff_lt, outOf_val, h1, h2']
  have h2' : ((e.length : Int) == 0) = false := by simpa using h2
  have he : e.length ≤ 4096 := by omega
  have hmk := tree_mk (L := L) e he
  obtain ⟨ha, hb⟩ := tree_l1 (L := L) e he hf
  rw [if_neg h1, if_neg h2]
  cases hr : treeRun e with
  | error u =>
    obtain ⟨R, ⟨t, rfl⟩, hl⟩ := hb u hr
    unfold t190c t190d at hl
    simp only [Int.natCast_zero] at hl
    unfold fn190
    generalize fn190_m = M at *
    simp -implicitDefEqProofs only [code_skip, code_ops, code_seq, code_cond, ops_cons, ops_nil, aOp, opd, upd_at, initTm_at, kt_cons, stepVal, aBin, aLen, aInt, isShift, endFn, aResults, aResult, tupled, code_loopF, gc_mk, isTrim_cons, gcIds_mk, newIds_nil, newIds_cons, gcMap_at, posOf, ren, renC, idsV, idsC, wipeR_int, isData_list_none, isData_int, Option.getD_some, List.map_cons, List.map_nil, List.flatMap_cons, List.flatMap_nil, List.length_cons, List.length_nil, List.length_map, List.cons_append, List.nil_append, List.append_nil, List.getElem?_cons_zero, List.take_succ_cons, List.take_nil, List.not_mem_nil, ↓reduceIte, Bool.false_eq_true, and_true, not_false_eq_true, decide_false, Nat.le_refl, reduceCtorEq, Nat.zero_add, Nat.reduceEqDiff, Nat.reduceAdd, Nat.reduceLT, Nat.reduceLeDiff, kt_nil, gt_iff_lt, outOf_val, isData_vec, idsO_vec, renO_vec, ids_Ints, ren_Ints, h1, h2', hmk, hl, hdE]
  | ok s =>
    obtain ⟨hs, hl⟩ := ha s hr
    have hl2 := tree_l2 (L := L) e he s hs.l2
    unfold t190c t190d at hl
    simp only [Int.natCast_zero] at hl hl2
    have w : IntKind.i64.wrap ((e.length : Int) - 1) = ((e.length - 1 : Nat) : Int) := by rw [wrap64 (by omega) (by omega)]; omega
    have b : (((e.length - 1 : Nat) : Int) < e.length) := by omega
    have g := getI s.1 (e.length - 1) (by rw [hs.l1]; omega)
    dsimp only
    cases hq : findFrom (fun i p => if parBad e.length i p = true then some () else none) s.2 0 with
    | some u =>
      simp only [hq, fromFind] at hl2
      unfold fn190
      generalize fn190_m = M at *
      simp -implicitDefEqProofs only [code_skip, code_ops, code_seq, code_cond, ops_cons, ops_nil, aOp, opd, upd_at, initTm_at, kt_cons, stepVal, aBin, aLen, aInt, isShift, endFn, aResults, aResult, tupled, code_loopF, gc_mk, isTrim_cons, gcIds_mk, newIds_nil, newIds_cons, gcMap_at, posOf, ren, renC, idsV, idsC, wipeR_int, isData_list_none, isData_int, Option.getD_some, List.map_cons, List.map_nil, List.flatMap_cons, List.flatMap_nil, List.length_cons, List.length_nil, List.length_map, List.cons_append, List.nil_append, List.append_nil, List.getElem?_cons_zero, List.take_succ_cons, List.take_nil, List.not_mem_nil, ↓reduceIte, Bool.false_eq_true, and_true, not_false_eq_true, decide_false, Nat.le_refl, reduceCtorEq, Nat.zero_add, Nat.reduceEqDiff, Nat.reduceAdd, Nat.reduceLT, Nat.reduceLeDiff, kt_nil, gt_iff_lt, Option.isSome_some, outOf_val, isData_vec, idsO_vec, renO_vec, ids_Ints, ren_Ints, h1, h2', hmk, hl, hl2, hdE]
    | none =>
      simp only [hq, fromFind] at hl2
      by_cases h4 : 400 < s.1.getD (e.length - 1) 0
      · unfold fn190
        generalize fn190_m = M at *
        simp -implicitDefEqProofs only [code_skip, code_ops, code_seq, code_cond, code_ret, ops_cons, ops_nil, aOp, opd, upd_at, initTm_at, kt_cons, stepVal, aBin, aLen, aInt, aIndexList, isShift, aLoad1, endFn, aResults, aResult, tupled, code_loopF, gc_mk, isTrim_cons, gcIds_mk, newIds_nil, newIds_cons, gcMap_at, posOf, ren, renC, idsV, idsC, wipeR_int, isData_list_none, isData_int, Option.getD_some, List.map_cons, List.map_nil, List.flatMap_cons, List.flatMap_nil, List.length_cons, List.length_nil, List.length_map, List.cons_append, List.nil_append, List.append_nil, List.getElem?_cons_zero, List.take_succ_cons, List.take_nil, List.not_mem_nil, ↓reduceIte, Bool.false_eq_true, and_true, not_false_eq_true, decide_true, decide_false, and_self, Nat.le_refl, reduceCtorEq, Nat.zero_add, Nat.reduceEqDiff, Nat.reduceAdd, Nat.reduceLT, Nat.reduceLeDiff, Int.toNat_natCast, Int.natCast_nonneg, kt_nil, gt_iff_lt, Option.isSome_none, outOf_val, isData_vec, idsO_vec, renO_vec, ids_Ints, ren_Ints, Nat.mul_one, h1, h2', hmk, hl, hl2, hdE, w, b, g, h4]
      · unfold fn190
        generalize fn190_m = M at *
        simp -implicitDefEqProofs only [code_skip, code_ops, code_seq, code_cond, code_ret, ops_cons, ops_nil, aOp, opd, upd_at, initTm_at, kt_cons, stepVal, aBin, aLen, aInt, aIndexList, isShift, aLoad1, endFn, aResults, aResult, tupled, code_loopF, gc_mk, isTrim_cons, gcIds_mk, newIds_nil, newIds_cons, gcMap_at, posOf, ren, renC, idsV, idsC, wipeR_int, isData_list_none, isData_int, Option.getD_some, List.map_cons, List.map_nil, List.flatMap_cons, List.flatMap_nil, List.length_cons, List.length_nil, List.length_map, List.cons_append, List.nil_append, List.append_nil, List.getElem?_cons_zero, List.take_succ_cons, List.take_nil, List.not_mem_nil, ↓reduceIte, Bool.false_eq_true, and_true, not_false_eq_true, decide_false, and_self, Nat.le_refl, reduceCtorEq, Nat.zero_add, Nat.reduceEqDiff, Nat.reduceAdd, Nat.reduceLT, Nat.reduceLeDiff, Int.toNat_natCast, Int.natCast_nonneg, kt_nil, gt_iff_lt, Option.isSome_none, outOf_val, isData_vec, idsO_vec, renO_vec, ids_Ints, ren_Ints, Nat.mul_one, h1, h2', hmk, hl, hl2, hdE, w, b, g, h4]
end
end Go.Abs
