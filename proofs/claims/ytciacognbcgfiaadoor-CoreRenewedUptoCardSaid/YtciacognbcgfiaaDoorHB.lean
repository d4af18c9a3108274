/-
  PARTS OF A PROOF, joined: an abstract machine for quiet code, its evaluation, and what the seat's functions answer on it. Conditions: none.
-/
import Derived.Test.YtciacognbcgfiaaDoorHeapA
import Derived.Test.YtciacognbcgfiaaDoorC
/-
  Steps over a heap that is not spelled out; Grow where the tree is written later: the kids and the alternatives of one node. Conditions: none.
-/
set_option linter.unusedVariables false
set_option linter.unusedSimpArgs false
set_option maxRecDepth 100000
set_option maxHeartbeats 4000000
namespace Go.Abs
theorem hga {H l : Heap} {i : Nat} (h : i < H.length) : (H ++ l)[i]? = H[i]? := List.getElem?_append_left h
theorem hgl {A l : Heap} {o : AObj} {n : Nat} (h : n = A.length) : (A ++ o :: l)[n]? = some o := by subst h; simp
theorem hgl2 {A l : Heap} {o o2 : AObj} {n : Nat} (h : n = A.length + 1) : (A ++ o :: o2 :: l)[n]? = some o2 := by subst h; simp
theorem hgl3 {A l : Heap} {o o2 o3 : AObj} {n : Nat} (h : n = A.length + 2) : (A ++ o :: o2 :: o3 :: l)[n]? = some o3 := by subst h; simp
theorem hsa {A l : Heap} {i : Nat} {b : AObj} (h : i < A.length) : (A ++ l).set i b = A.set i b ++ l := List.set_append_left _ _ h
theorem hsl {A l : Heap} {o b : AObj} {n : Nat} (h : n = A.length) : (A ++ o :: l).set n b = A ++ b :: l := by subst h; simp
theorem hsl2 {A l : Heap} {o o2 b : AObj} {n : Nat} (h : n = A.length + 1) : (A ++ o :: o2 :: l).set n b = A ++ o :: b :: l := by subst h; simp
theorem hgs {A : Heap} {i : Nat} {a : AObj} (h : i < A.length) : (A.set i a)[i]? = some a := by simp [h]
theorem hgn {A : Heap} {i j : Nat} {a : AObj} (h : i ≠ j) : (A.set i a)[j]? = A[j]? := List.getElem?_set_ne h
theorem hlt {H : Heap} {i : Nat} {o : AObj} (h : H[i]? = some o) : i < H.length := (List.getElem?_eq_some_iff.1 h).1
theorem hset0 {H : Heap} {i : Nat} {o : AObj} (h : H[i]? = some o) : H.set i o = H := by
  obtain ⟨hl, he⟩ := List.getElem?_eq_some_iff.1 h
  rw [← he]
  exact List.set_getElem_self hl
/-- A loop that keeps a statement true. -/
theorem loopF_pred {pure : Nat → Bool} {call : CallT} {b : Nat} {keep fk : List Nat} {id : Nat} {body : ACode} (P : Nat → St → Prop) (n : Nat) (Q : St → Prop)
    (hstep : ∀ i s, i < n → P i s → ∃ s', roundF pure call b keep fk body s = some (.normal, s') ∧ P (i + 1) s') (hend : ∀ s, P n s → ∃ T, roundF pure call b keep fk body s = some (.exit id, T) ∧ Q T) {s0 : St} (h0 : P 0 s0) :
    ∃ T, loopF pure call b keep fk id body s0 = some (.normal, T) ∧ Q T := by
  have key : ∀ k i s, i + k = n → P i s → ∃ T, loopF pure call b keep fk id body s = some (.normal, T) ∧ Q T := by
    intro k
    induction k with
    | zero =>
      intro i s hi hp
      rw [Nat.add_zero] at hi
      subst hi
      obtain ⟨T, h1, h2⟩ := hend s hp
      exact ⟨T, loopF_exit h1, h2⟩
    | succ k ih =>
      intro i s hi hp
      obtain ⟨s', h1, h2⟩ := hstep i s (by omega) hp
      rw [loopF_next h1]
      exact ih (i + 1) s' (by omega) h2
  exact key n 0 s0 (by omega) h0
/-- Numbers copied, where the copy may be written. -/
def cloneV (l : List Int) (n : Nat) : AVal := if l = [] then .list [] none else .vec n l.length
def cloneO (l : List Int) : Heap := if l = [] then [] else [.vec (l.map encI) 1]
structure MPrims (L : Lib) : Prop where
  clone : ∀ (l : List Int) (h : Heap), l.length < 2 ^ 30 → call L 188 [.list (l.map encI) none] h = some (.val (cloneV l h.length), h ++ cloneO l)
theorem cloneV_ne {l : List Int} (h : l ≠ []) (n : Nat) : cloneV l n = .vec n l.length := if_neg h
theorem cloneO_ne {l : List Int} (h : l ≠ []) : cloneO l = [.vec (l.map encI) 1] := if_neg h
section
variable {L : Lib}
def nb (x : CExpr) (bv kv av : AVal) : AObj := .box [.int .i64 x.op, .int .i64 x.n, bv, kv, av]
theorem mgrow_l0 {b : Nat} (xs : AVal) (nx : Int) (g0 : Nat) (i : Nat) (x : CExpr) (hk : x.kids.length < 2 ^ 30) (cs : List AVal) (N : Nat) (pt : Int → Nat) (H : Heap) (px pn : Nat) (bv : AVal)
    (hg : H[g0]? = some (.vec cs 1)) (hn : H[pn]? = some (nb x bv (.list [] (some none)) (.list [] (some none)))) (hbv : leaf bv = true) (hpn : pn ≠ g0) (hlook : ∀ k ∈ x.kids, 0 ≤ k ∧ k < N ∧ cs[k.toNat]? = some (nptr (pt k))) :
    loopF L.pure (call L) b [1000000, 0, 3, 4, 5, 6, 14, 15, 16, 31, 32, 33] [1000000, 0, 3, 4, 5, 6, 14, 15, 16] 2 fm160_l0
      ⟨kt [0, 3, 4, 5, 6, 14, 15, 16, 31, 32, 33] [xs, .vec g0 N, .int .i64 i, nptr px, nptr pn, xs, .int .i64 nx, .int .i64 i, .list (x.kids.map encI) none, .int .i64 x.kids.length, .int .i64 0], H⟩ =
      some (.normal, ⟨kt [0, 3, 4, 5, 6, 14, 15, 16] [xs, .vec g0 N, .int .i64 i, nptr px, nptr pn, xs, .int .i64 nx, .int .i64 i],
        H.set pn (nb x bv (.list ((x.kids.map pt).map nptr) (ownAt H.length x.kids.length)) (.list [] (some none))) ++ tailAt 1 x.kids.length⟩) := by
  have hl0 := hlt hg
  have hln := hlt hn
  have hne : (pn = g0) = False := eq_false hpn
  have key := loopF_count (pure := L.pure) (call := call L) (b := b) (keep := [1000000, 0, 3, 4, 5, 6, 14, 15, 16, 31, 32, 33]) (fk := [1000000, 0, 3, 4, 5, 6, 14, 15, 16]) (id := 2) (body := fm160_l0)
    (fun j => ⟨kt [0, 3, 4, 5, 6, 14, 15, 16, 31, 32, 33] [xs, .vec g0 N, .int .i64 i, nptr px, nptr pn, xs, .int .i64 nx, .int .i64 i, .list (x.kids.map encI) none, .int .i64 x.kids.length, .int .i64 j],
      H.set pn (nb x bv (.list (((x.kids.take j).map pt).map nptr) (ownAt H.length j)) (.list [] (some none))) ++ tailAt 1 j⟩) x.kids.length
    (T := ⟨kt [0, 3, 4, 5, 6, 14, 15, 16] [xs, .vec g0 N, .int .i64 i, nptr px, nptr pn, xs, .int .i64 nx, .int .i64 i],
        H.set pn (nb x bv (.list ((x.kids.map pt).map nptr) (ownAt H.length x.kids.length)) (.list [] (some none))) ++ tailAt 1 x.kids.length⟩) ?_ ?_
  · rw [← key]
    congr 2
    rw [List.take_zero, ownAt_zero, tailAt_zero, List.append_nil]
    exact (hset0 hn).symm
  · intro j hj
    obtain ⟨h1, h2, h3⟩ := round_c encI x.kids hk j hj
    obtain ⟨k0, k1, k2⟩ := hlook x.kids[j] (List.getElem_mem hj)
    have htake : ((x.kids.take (j + 1)).map pt).map nptr = ((x.kids.take j).map pt).map nptr ++ [nptr (pt x.kids[j])] := by
      rw [List.take_succ_eq_append_getElem hj, List.map_append, List.map_append]; rfl
    have hlen : (((x.kids.take j).map pt).map nptr).length = j := by simp; omega
    have hjj : j + 1 ≤ 1073741824 := by omega
    have hall : ((((x.kids.take j).map pt).map nptr).all fun v => decide ((acells v).length = 1)) = true := by
      rw [List.all_eq_true]
      intro v hv
      obtain ⟨q, _, rfl⟩ := List.mem_map.1 hv
      rfl
    rw [htake]
    generalize x.kids[j] = k at *
    generalize ((x.kids.take j).map pt).map nptr = ks at *
    unfold nb nptr at *
    rcases Nat.eq_zero_or_pos j with hz | hz
    · have : ks = [] := List.length_eq_zero_iff.1 (by omega)
      subst this
      have o1 : ownAt H.length j = some none := by rw [hz]; rfl
      have o2 : tailAt 1 j = [] := by rw [hz]; rfl
      have o3 : j + 1 = 1 := by omega
      have o4 : ownAt H.length 1 = some (some H.length) := rfl
      unfold fm160_l0
      simp -implicitDefEqProofs only [code_skip, code_ops, code_draw, code_seq, code_cond, code_block, ops_cons, ops_nil, aOp, opd, upd_at, upd_none, kt_cons, stepVal, stepHeap, aBin, aInt, aIndexList, isShift, aWanted, aLoad1, aStore, aField, leaf, acells_int, acells_list, acells_ptr, cellsSet, gc_mk, isTrim_cons, draw_eq, opsH_nil, opsH_cons, isLoud, aAppend, wipe_ptr, List.map_cons, List.map_nil, List.length_cons, List.length_nil, List.cons_append, List.nil_append, List.append_nil, List.getElem?_cons_zero, List.getElem?_cons_succ, List.take_succ_cons, List.take_zero, List.drop_succ_cons, List.drop_zero, List.all_cons, List.all_nil, ↓reduceIte, Bool.and_true, Bool.false_eq_true, not_false_eq_true, decide_true, and_self, reduceCtorEq, Nat.zero_add, Nat.reduceEqDiff, Nat.reduceAdd, Nat.reduceLeDiff, Int.toNat_natCast, Int.natCast_nonneg, ne_eq, List.cons_ne_nil, roundF_eq, maxLen_eq, checksP_nil, drawTo_if, kt_nil, Int.cast_ofNat_Int, ownAt_succ, tailAt_succ, encI_eq, Nat.mul_one, List.length_set, h1, h2, h3, k0, k1, k2, o1, o2, o3, o4, hg, hgs, hgn, hln, hl0, hga, hsa, hgl, hsl, List.set_set, hpn, hne, hbv]
    · have o1 := ownAt_pos (b := H.length) hz
      have o2 := tailAt_pos (sz := 1) hz
      unfold fm160_l0
      simp -implicitDefEqProofs only [code_skip, code_ops, code_draw, code_seq, code_cond, code_block, ops_cons, ops_nil, aOp, opd, upd_at, upd_none, kt_cons, stepVal, stepHeap, aBin, aInt, aIndexList, isShift, aWanted, aLoad1, aStore, aField, leaf, acells_int, acells_list, acells_ptr, cellsSet, gc_mk, isTrim_cons, draw_eq, opsH_nil, opsH_cons, isLoud, aAppend, wipe_ptr, List.map_cons, List.map_nil, List.length_cons, List.length_nil, List.cons_append, List.nil_append, List.getElem?_cons_zero, List.getElem?_cons_succ, List.take_succ_cons, List.take_zero, List.drop_succ_cons, List.drop_zero, List.all_cons, List.all_nil, ↓reduceIte, Bool.and_true, Bool.false_eq_true, not_false_eq_true, decide_true, and_self, reduceCtorEq, Nat.zero_add, Nat.reduceEqDiff, Nat.reduceAdd, Nat.reduceLeDiff, Int.toNat_natCast, Int.natCast_nonneg, ne_eq, List.cons_ne_nil, roundF_eq, maxLen_eq, checksP_nil, drawTo_if, kt_nil, ownAt_succ, tailAt_succ, encI_eq, Nat.mul_one, List.length_set, h1, h2, h3, k0, k1, k2, hall, hlen, hjj, o1, o2, hg, hgs, hgn, hln, hl0, hga, hsa, hgl, hsl, List.set_set, hpn, hne, hbv]
  · have h0 := append_c x.kids.length
    rw [List.take_length]
    unfold fm160_l0
    simp -implicitDefEqProofs only [code_ops, code_seq, code_cond, code_exit, ops_cons, ops_nil, aOp, opd, upd_at, kt_cons, stepVal, aBin, aInt, isShift, gcE, gc_mk, isTrim_cons, List.map_cons, List.map_nil, List.drop_succ_cons, List.drop_zero, ↓reduceIte, Bool.false_eq_true, decide_true, decide_false, reduceCtorEq, Nat.reduceEqDiff, roundF_eq, h0]
end
end Go.Abs
/-
  Grow where the tree is written later: the alternatives of one node. Conditions: none.
-/
set_option linter.unusedVariables false
set_option linter.unusedSimpArgs false
set_option maxRecDepth 100000
set_option maxHeartbeats 4000000
namespace Go.Abs
theorem HAlts.len {H : Heap} : ∀ {l : List CAlt} {v : List AVal} {f : List Nat}, HAlts H l v f → v.length = l.length
  | [], v, f, h => by obtain ⟨rfl, _⟩ := h; rfl
  | a :: as, v, f, ⟨bv, fb, avs', fa', h1, h2, h3, h4⟩ => by rw [h1, List.length_cons, List.length_cons, h4.len]
theorem HAlts.all {H : Heap} : ∀ {l : List CAlt} {v : List AVal} {f : List Nat}, HAlts H l v f → (v.all fun x => decide ((acells x).length = 2)) = true
  | [], v, f, h => by obtain ⟨rfl, _⟩ := h; rfl
  | a :: as, v, f, ⟨bv, fb, avs', fa', h1, h2, h3, h4⟩ => by rw [h1, List.all_cons, h4.all]; rfl
theorem HAlts.lt {H : Heap} : ∀ {l : List CAlt} {v : List AVal} {f : List Nat}, HAlts H l v f → ∀ i ∈ f, i < H.length
  | [], v, f, h => by obtain ⟨_, rfl⟩ := h; intro i hi; cases hi
  | a :: as, v, f, ⟨bv, fb, avs', fa', h1, h2, h3, h4⟩ => by
    intro i hi
    rw [h2] at hi
    rcases List.mem_append.1 hi with h | h
    · exact h3.lt i h
    · exact h4.lt i h
theorem HAlts.snoc {H : Heap} {a : CAlt} {bv : AVal} {fb : List Nat} (hb : HInts H a.binds bv fb) : ∀ {l : List CAlt} {v : List AVal} {f : List Nat}, HAlts H l v f → HAlts H (l ++ [a]) (v ++ [.agg [.int .i64 a.tag, bv]]) (f ++ fb)
  | [], v, f, h => by
    obtain ⟨rfl, rfl⟩ := h
    exact ⟨bv, fb, [], [], rfl, by simp, hb, rfl, rfl⟩
  | a' :: as, v, f, ⟨bv', fb', avs', fa', h1, h2, h3, h4⟩ => ⟨bv', fb', _, _, by rw [h1]; rfl, by rw [h2, List.append_assoc], h3, h4.snoc hb⟩
theorem clone_cases (l : List Int) : ((∀ n, cloneV l n = .list [] none) ∧ cloneO l = []) ∨ ((∀ n, cloneV l n = .vec n l.length) ∧ cloneO l = [.vec (l.map encI) 1]) := by
  by_cases h : l = []
  · exact .inl ⟨fun n => if_pos h |>.trans rfl, if_pos h⟩
  · exact .inr ⟨cloneV_ne h, cloneO_ne h⟩
theorem clone_nil {l : List Int} (h : cloneO l = []) : l = [] := by
  unfold cloneO at h
  split at h
  · assumption
  · cases h
theorem clone_cons {l : List Int} {o : AObj} (h : cloneO l = [o]) : l ≠ [] := by
  intro e
  rw [e] at h
  cases h
/-- The heap while the alternatives are laid. -/
structure A1 (x : CExpr) (bv kv : AVal) (pn : Nat) (H : Heap) (j : Nat) (H' : Heap) (avs : List AVal) (oa : Option (Option Nat)) (fa : List Nat) : Prop where
  node : H'[pn]? = some (nb x bv kv (.list avs oa))
  alts : HAlts H' (x.alts.take j) avs fa
  low : ∀ i ∈ fa, H.length ≤ i ∧ oa ≠ some (some i)
  nodup : fa.Nodup
  own : (j = 0 ∧ oa = some none) ∨ (0 < j ∧ ∃ t, oa = some (some t) ∧ H'[t]? = some (.tail j 2) ∧ H.length ≤ t)
  len : H.length ≤ H'.length
  keep : ∀ i, i < H.length → i ≠ pn → H'[i]? = H[i]?
theorem A1.step {x : CExpr} {bv kv : AVal} {pn : Nat} {H : Heap} {j : Nat} {H' : Heap} {avs : List AVal} {oa : Option (Option Nat)} {fa : List Nat} (hA : A1 x bv kv pn H j H' avs oa fa) (hpn : pn < H.length) {a : CAlt} (htake : x.alts.take (j + 1) = x.alts.take j ++ [a])
    {H2 : Heap} {bv' : AVal} {fb : List Nat} {oa' : Option (Option Nat)} (hlen : H'.length ≤ H2.length) (hkeep : ∀ i, i < H'.length → i ≠ pn → oa ≠ some (some i) → H2[i]? = H'[i]?)
    (hnode : H2[pn]? = some (nb x bv kv (.list (avs ++ [.agg [.int .i64 a.tag, bv']]) oa'))) (hb : HInts H2 a.binds bv' fb) (hfb : ∀ i ∈ fb, H'.length ≤ i ∧ oa' ≠ some (some i)) (hfn : fb.Nodup)
    (t : Nat) (hoa : oa' = some (some t)) (ht : H2[t]? = some (.tail (j + 1) 2)) (htl : H.length ≤ t) (htw : H'.length ≤ t ∨ oa = some (some t)) :
    A1 x bv kv pn H (j + 1) H2 (avs ++ [.agg [.int .i64 a.tag, bv']]) oa' (fa ++ fb) := by
  have hlt' := hA.alts.lt
  have hl := hA.len
  refine ⟨hnode, ?_, ?_, ?_, .inr ⟨by omega, t, hoa, ht, htl⟩, by omega, ?_⟩
  · rw [htake]
    refine (hA.alts.frame fun q hq => hkeep q (hlt' q hq) (fun e => ?_) (hA.low q hq).2).snoc hb
    have := (hA.low q hq).1
    omega
  · intro i hi
    rcases List.mem_append.1 hi with h | h
    · refine ⟨(hA.low i h).1, ?_⟩
      rw [hoa]
      rintro e
      have e1 := Option.some.inj (Option.some.inj e)
      subst e1
      have := hlt' _ h
      rcases htw with h3 | h3
      · omega
      · exact (hA.low _ h).2 h3
    · exact ⟨by have := (hfb i h).1; omega, (hfb i h).2⟩
  · refine List.nodup_append.2 ⟨hA.nodup, hfn, fun i hi k hk e => ?_⟩
    subst e
    have h1 := hlt' i hi
    have h2 := (hfb i hk).1
    omega
  · intro i hi hp
    rw [hkeep i (Nat.lt_of_lt_of_le hi hl) hp, hA.keep i hi hp]
    rintro e
    rcases hA.own with ⟨_, ho⟩ | ⟨_, t', ho, _, h4⟩
    · rw [ho] at e
      cases e
    · rw [ho] at e
      have := Option.some.inj (Option.some.inj e)
      omega
section
variable {L : Lib}
theorem mgrow_l1 (hP : MPrims L) {b : Nat} (xs : AVal) (nx : Int) (g0 : Nat) (i : Nat) (x : CExpr) (ha : x.alts.length < 2 ^ 30) (hab : ∀ a ∈ x.alts, a.binds.length < 2 ^ 30) (N : Nat) (H : Heap) (pn : Nat) (bv kv : AVal)
    (hn : H[pn]? = some (nb x bv kv (.list [] (some none)))) (hbv : leaf bv = true) (hkv : leaf kv = true) :
    ∃ T, loopF L.pure (call L) b [1000000, 0, 3, 4, 6, 14, 15, 16, 52, 53, 54] [1000000, 0, 3, 4, 6, 14, 15, 16] 4 fm160_l1
      ⟨kt [0, 3, 4, 6, 14, 15, 16, 52, 53, 54] [xs, .vec g0 N, .int .i64 i, nptr pn, xs, .int .i64 nx, .int .i64 i, .list (x.alts.map encAlt) none, .int .i64 x.alts.length, .int .i64 0], H⟩ = some (.normal, T) ∧
      ∃ H' avs oa fa, T = ⟨kt [0, 3, 4, 6, 14, 15, 16] [xs, .vec g0 N, .int .i64 i, nptr pn, xs, .int .i64 nx, .int .i64 i], H'⟩ ∧ A1 x bv kv pn H x.alts.length H' avs oa fa := by
  have hln := hlt hn
  refine loopF_pred (pure := L.pure) (call := call L) (b := b) (id := 4) (body := fm160_l1)
    (fun j s => ∃ H' avs oa fa, s = ⟨kt [0, 3, 4, 6, 14, 15, 16, 52, 53, 54] [xs, .vec g0 N, .int .i64 i, nptr pn, xs, .int .i64 nx, .int .i64 i, .list (x.alts.map encAlt) none, .int .i64 x.alts.length, .int .i64 j], H'⟩ ∧ A1 x bv kv pn H j H' avs oa fa) x.alts.length _ ?_ ?_ ?_
  · intro j s hj hs
    obtain ⟨H', avs, oa, fa, rfl, hA⟩ := hs
    obtain ⟨h1, h2, h3⟩ := round_c encAlt x.alts ha j hj
    have hb := hab x.alts[j] (List.getElem_mem hj)
    have htake : x.alts.take (j + 1) = x.alts.take j ++ [x.alts[j]] := List.take_succ_eq_append_getElem hj
    have hlen : avs.length = j := by rw [hA.alts.len]; simp; omega
    have hall := hA.alts.all
    have hjj : j + 1 ≤ 1073741824 := by omega
    have hl' := hA.len
    have hp' : pn < H'.length := by omega
    have hnode := hA.node
    have hfa : ∀ i ∈ fa, i < H'.length := hA.alts.lt
    have hpf : ∀ i ∈ fa, pn ≠ i := fun i hi => by have := (hA.low i hi).1; omega
    generalize x.alts[j] = a at *
    have hc := fun h => hP.clone a.binds h hb
    unfold nb nptr at *
    obtain ⟨r, hr0⟩ : ∃ r, roundF L.pure (call L) b [1000000, 0, 3, 4, 6, 14, 15, 16, 52, 53, 54] [1000000, 0, 3, 4, 6, 14, 15, 16] fm160_l1 ⟨kt [0, 3, 4, 6, 14, 15, 16, 52, 53, 54] [xs, .vec g0 N, .int .i64 i, .ptr (some (pn, 0)), xs, .int .i64 nx, .int .i64 i, .list (x.alts.map encAlt) none, .int .i64 x.alts.length, .int .i64 j], H'⟩ = r := ⟨_, rfl⟩
    have hr := hr0
    unfold fm160_l1 at hr
    obtain ⟨hz, ho⟩ | ⟨hz, t, ho, ht, htl⟩ := hA.own
    · subst ho
      have : avs = [] := List.length_eq_zero_iff.1 (by omega)
      subst this
      have o3 : j + 1 = 1 := by omega
      rcases clone_cases a.binds with ⟨hv, ho⟩ | ⟨hv, ho⟩ <;> simp only [hv, ho] at hc
      · simp -implicitDefEqProofs only [code_skip, code_ops, code_draw, code_seq, code_cond, code_block, ops_cons, ops_nil, aOp, opd, upd_at, upd_none, kt_cons, stepVal, stepHeap, aBin, aInt, aIndexList, isShift, aWanted, aLoad1, aStore, readAt, aField, fillA, known, leaf, acells_agg, acells_int, acells_list, cellsSet, gc_mk, isTrim_cons, draw_eq, opsH_nil, opsH_cons, isLoud, aAppend, wipe_agg, wipeC_list, wipeC_int, Option.map_some, List.map_cons, List.map_nil, List.length_cons, List.length_nil, List.length_append, List.cons_append, List.nil_append, List.append_nil, List.append_assoc, List.getElem?_cons_zero, List.getElem?_cons_succ, List.take_succ_cons, List.take_zero, List.drop_succ_cons, List.drop_zero, List.take_nil, List.drop_nil, List.all_cons, List.all_nil, List.mem_cons, List.not_mem_nil, ↓reduceIte, Bool.and_true, Bool.false_eq_true, or_false, decide_true, and_self, Nat.le_refl, reduceCtorEq, Nat.add_zero, Nat.zero_add, Nat.reduceEqDiff, Nat.reduceAdd, Nat.reduceSub, Nat.reduceLeDiff, Int.toNat_natCast, Int.natCast_nonneg, List.cons_ne_nil, roundF_eq, maxLen_eq, checksP_cons, checksP_nil, checkP_eq, drawTo_if, forall_const, forall_eq_or_imp, forall_eq, kt_nil, encAlt_eq, h1, h2, h3, hc, hnode, hga, hgl, hsl, hsa, hp', hbv, hkv] at hr
        subst hr
        refine ⟨_, hr0, _, _, _, _, rfl, hA.step (bv' := .list [] none) (fb := []) hln htake (by simp) ?_ ?_ ?_ ?_ ?_ (H'.length + 1) rfl ?_ (by omega) (.inl (by omega))⟩
        · intro q h5 h6 _
          rw [hga (by simpa using h5), hgn (by omega)]
        · rw [hga (by simpa using hp'), hgs hp']
          rfl
        · exact .inl ⟨clone_nil ho, rfl, rfl⟩
        · intro q hq
          cases hq
        · exact List.nodup_nil
        · rw [hgl2 (by simp), o3]
      · simp -implicitDefEqProofs only [code_skip, code_ops, code_draw, code_seq, code_cond, code_block, ops_cons, ops_nil, aOp, opd, upd_at, upd_none, kt_cons, stepVal, stepHeap, aBin, aInt, aIndexList, isShift, aWanted, aLoad1, aStore, readAt, aField, fillA, known, leaf, acells_agg, acells_int, acells_list, cellsSet, gc_mk, isTrim_cons, draw_eq, opsH_nil, opsH_cons, isLoud, aAppend, wipe_agg, wipeC_int, Option.map_some, List.map_cons, List.map_nil, List.length_cons, List.length_nil, List.length_append, List.cons_append, List.nil_append, List.append_nil, List.append_assoc, List.getElem?_cons_zero, List.getElem?_cons_succ, List.take_succ_cons, List.take_zero, List.drop_succ_cons, List.drop_zero, List.take_nil, List.drop_nil, List.all_cons, List.all_nil, List.mem_cons, List.not_mem_nil, ↓reduceIte, Bool.and_true, Bool.false_eq_true, or_false, decide_true, and_self, Nat.le_refl, reduceCtorEq, Nat.add_zero, Nat.zero_add, Nat.reduceEqDiff, Nat.reduceAdd, Nat.reduceSub, Nat.reduceLeDiff, Int.toNat_natCast, Int.natCast_nonneg, List.cons_ne_nil, roundF_eq, maxLen_eq, checksP_cons, checksP_nil, checkP_eq, drawTo_if, forall_const, forall_eq_or_imp, forall_eq, kt_nil, encAlt_eq, acells_vec, wipeC_vec, h1, h2, h3, hc, hnode, hga, hgl, hsl, hsa, hp', hbv, hkv] at hr
        subst hr
        refine ⟨_, hr0, _, _, _, _, rfl, hA.step (bv' := .vec (H'.length + 1) a.binds.length) (fb := [H'.length + 1]) hln htake (by simp) ?_ ?_ ?_ ?_ ?_ (H'.length + 2) rfl ?_ (by omega) (.inl (by omega))⟩
        · intro q h5 h6 _
          rw [hga (by simpa using h5), hgn (by omega)]
        · rw [hga (by simpa using hp'), hgs hp']
          rfl
        · exact .inr ⟨clone_cons ho, _, rfl, hgl2 (by simp), rfl⟩
        · intro q hq
          rw [List.mem_singleton.1 hq]
          exact ⟨by omega, fun e => by have := Option.some.inj (Option.some.inj e); omega⟩
        · simp
        · rw [hgl3 (by simp), o3]
    · subst ho
      have htl' := hlt ht
      have hpt : t ≠ pn := by omega
      rcases clone_cases a.binds with ⟨hv, ho⟩ | ⟨hv, ho⟩ <;> simp only [hv, ho] at hc
      · simp -implicitDefEqProofs only [code_skip, code_ops, code_draw, code_seq, code_cond, code_block, ops_cons, ops_nil, aOp, opd, upd_at, upd_none, kt_cons, stepVal, stepHeap, aBin, aInt, aIndexList, isShift, aWanted, aLoad1, aStore, readAt, aField, fillA, known, leaf, acells_agg, acells_int, acells_list, cellsSet, gc_mk, isTrim_cons, draw_eq, opsH_nil, opsH_cons, isLoud, aAppend, wipe_agg, wipeC_list, wipeC_int, Option.map_some, List.map_cons, List.map_nil, List.length_cons, List.length_nil, List.cons_append, List.nil_append, List.append_nil, List.getElem?_cons_zero, List.getElem?_cons_succ, List.take_succ_cons, List.take_zero, List.drop_succ_cons, List.drop_zero, List.take_nil, List.drop_nil, List.all_cons, List.all_nil, List.mem_cons, List.not_mem_nil, ↓reduceIte, Bool.and_true, Bool.false_eq_true, or_false, not_false_eq_true, decide_true, and_self, Nat.le_refl, reduceCtorEq, Nat.add_zero, Nat.zero_add, Nat.reduceEqDiff, Nat.reduceAdd, Nat.reduceSub, Nat.reduceLeDiff, Int.toNat_natCast, Int.natCast_nonneg, ne_eq, List.cons_ne_nil, roundF_eq, maxLen_eq, checksP_cons, checksP_nil, checkP_eq, drawTo_if, forall_const, forall_eq_or_imp, forall_eq, kt_nil, encAlt_eq, List.length_set, h1, h2, h3, hc, hnode, ht, hga, hgl, hsl, hsa, hgn, hp', hbv, hkv, htl', hpt, hall, hlen, hjj] at hr
        subst hr
        refine ⟨_, hr0, _, _, _, _, rfl, hA.step (bv' := .list [] none) (fb := []) hln htake (by simp) ?_ ?_ ?_ ?_ ?_ t rfl ?_ (by omega) (.inr rfl)⟩
        · intro q h5 h6 h7
          rw [hga (by simpa using h5), hgn (by omega), hgn (fun e => h7 (by rw [e]))]
        · rw [hga (by simpa using hp'), hgs (by simpa using hp')]
          rfl
        · exact .inl ⟨clone_nil ho, rfl, rfl⟩
        · intro q hq
          cases hq
        · exact List.nodup_nil
        · rw [hga (by simpa using htl'), hgn (by omega), hgs htl']
      · simp -implicitDefEqProofs only [code_skip, code_ops, code_draw, code_seq, code_cond, code_block, ops_cons, ops_nil, aOp, opd, upd_at, upd_none, kt_cons, stepVal, stepHeap, aBin, aInt, aIndexList, isShift, aWanted, aLoad1, aStore, readAt, aField, fillA, known, leaf, acells_agg, acells_int, acells_list, cellsSet, gc_mk, isTrim_cons, draw_eq, opsH_nil, opsH_cons, isLoud, aAppend, wipe_agg, wipeC_int, Option.map_some, List.map_cons, List.map_nil, List.length_cons, List.length_nil, List.length_append, List.cons_append, List.nil_append, List.append_nil, List.append_assoc, List.getElem?_cons_zero, List.getElem?_cons_succ, List.take_succ_cons, List.take_zero, List.drop_succ_cons, List.drop_zero, List.take_nil, List.drop_nil, List.all_cons, List.all_nil, List.mem_cons, List.not_mem_nil, ↓reduceIte, Bool.and_true, Bool.false_eq_true, or_false, not_false_eq_true, decide_true, and_self, Nat.le_refl, reduceCtorEq, Nat.add_zero, Nat.zero_add, Nat.reduceEqDiff, Nat.reduceAdd, Nat.reduceSub, Nat.reduceLeDiff, Int.toNat_natCast, Int.natCast_nonneg, ne_eq, List.cons_ne_nil, roundF_eq, maxLen_eq, checksP_cons, checksP_nil, checkP_eq, drawTo_if, forall_const, forall_eq_or_imp, forall_eq, kt_nil, encAlt_eq, acells_vec, wipeC_vec, List.length_set, h1, h2, h3, hc, hnode, ht, hga, hgl, hsl, hsa, hgn, hp', hbv, hkv, htl', hpt, hall, hlen, hjj] at hr
        subst hr
        refine ⟨_, hr0, _, _, _, _, rfl, hA.step (bv' := .vec (H'.length + 1) a.binds.length) (fb := [H'.length + 1]) hln htake (by simp) ?_ ?_ ?_ ?_ ?_ t rfl ?_ (by omega) (.inr rfl)⟩
        · intro q h5 h6 h7
          rw [hga (by simpa using h5), hgn (by omega), hgn (fun e => h7 (by rw [e]))]
        · rw [hga (by simpa using hp'), hgs (by simpa using hp')]
          rfl
        · exact .inr ⟨clone_cons ho, _, rfl, hgl2 (by simp), rfl⟩
        · intro q hq
          rw [List.mem_singleton.1 hq]
          exact ⟨by omega, fun e => by have := Option.some.inj (Option.some.inj e); omega⟩
        · simp
        · rw [hga (by simpa using htl'), hgn (by omega), hgs htl']
  · intro s hs
    obtain ⟨H', avs, oa, fa, rfl, hA⟩ := hs
    have h0 := append_c x.alts.length
    refine ⟨_, ?_, H', avs, oa, fa, rfl, hA⟩
    unfold fm160_l1
    simp -implicitDefEqProofs only [code_ops, code_seq, code_cond, code_exit, ops_cons, ops_nil, aOp, opd, upd_at, kt_cons, stepVal, aBin, aInt, isShift, gcE, gc_mk, isTrim_cons, List.map_cons, List.map_nil, List.drop_succ_cons, List.drop_zero, ↓reduceIte, Bool.false_eq_true, decide_true, decide_false, reduceCtorEq, Nat.reduceEqDiff, roundF_eq, h0]
  · refine ⟨H, [], some none, [], rfl, hn, ⟨rfl, rfl⟩, fun i hi => (by cases hi), List.nodup_nil, .inl ⟨rfl, rfl⟩, Nat.le_refl _, fun i _ _ => rfl⟩
end
end Go.Abs
