/-
  PARTS OF A PROOF, joined: an abstract machine for quiet code, its evaluation, and what the seat's functions answer on it. Conditions: none.
-/
import Derived.Test.YtciacognbcgfiaaDoorHB
/-
  Grow where the tree is written later: all nodes, and what the tree holds. Conditions: none.
-/
set_option linter.unusedVariables false
set_option linter.unusedSimpArgs false
set_option maxRecDepth 100000
set_option maxHeartbeats 4000000
namespace Go.Abs
/-! ### What the root's tree holds is what all nodes hold -/
theorem fp_idx (e : List CExpr) (hkd : ∀ p, ∀ j ∈ kidsOf e p, j < p) (O F : Nat → List Nat) (hF : ∀ k, k < e.length → F k = O k ++ (kidsOf e k).flatMap F) :
    ∀ i : Nat, i < e.length → ∃ X : List Nat, (F i).Perm (X.flatMap O) ∧ X.Perm (i :: X.flatMap (kidsOf e)) ∧ ∀ x ∈ X, x ≤ i := by
  intro i
  induction i using Nat.strongRecOn with
  | ind i ih =>
    intro hi
    have key : ∀ ks : List Nat, (∀ k ∈ ks, k < i) → ∃ Y : List Nat, (ks.flatMap F).Perm (Y.flatMap O) ∧ Y.Perm (ks ++ Y.flatMap (kidsOf e)) ∧ ∀ y ∈ Y, y < i := by
      intro ks
      induction ks with
      | nil => exact fun _ => ⟨[], List.Perm.refl _, List.Perm.refl _, fun y hy => by cases hy⟩
      | cons k ks ih2 =>
        intro hk
        have hk0 := hk k (by simp)
        obtain ⟨X, x1, x2, x3⟩ := ih k hk0 (by omega)
        obtain ⟨Y, y1, y2, y3⟩ := ih2 fun q hq => hk q (by simp [hq])
        refine ⟨X ++ Y, ?_, ?_, ?_⟩
        · rw [List.flatMap_cons, List.flatMap_append]
          exact x1.append y1
        · rw [List.flatMap_append, List.cons_append]
          refine (x2.append y2).trans ?_
          rw [List.cons_append]
          refine List.Perm.cons _ ?_
          rw [← List.append_assoc, ← List.append_assoc]
          exact List.Perm.append_right _ List.perm_append_comm
        · intro y hy
          rcases List.mem_append.1 hy with h | h
          · have := x3 y h; omega
          · exact y3 y h
    obtain ⟨Y, y1, y2, y3⟩ := key (kidsOf e i) (hkd i)
    refine ⟨i :: Y, ?_, ?_, ?_⟩
    · rw [hF i hi, List.flatMap_cons]
      exact List.Perm.append_left _ y1
    · rw [List.flatMap_cons]
      exact List.Perm.cons _ y2
    · intro x hx
      rcases List.mem_cons.1 hx with h | h
      · omega
      · have := y3 x h; omega
theorem fp_perm {e : List CExpr} (h : TreeL e) (O F : Nat → List Nat) (hF : ∀ k, k < e.length → F k = O k ++ (kidsOf e k).flatMap F) : (F (e.length - 1)).Perm ((List.range e.length).flatMap O) := by
  have hpos := h.pos
  obtain ⟨X, x1, x2, x3⟩ := fp_idx e (treeL_kd h) O F hF (e.length - 1) (by omega)
  refine x1.trans (List.Perm.flatMap_right _ ?_)
  rw [List.perm_iff_count]
  intro j
  by_cases hj : j < e.length
  · exact (closed_count (kidsOf e) (treeL_kd h) (e.length - 1) e.length X (List.range e.length) x2 (range_closed e h) (fun x hx => by have := x3 x hx; omega) (fun y hy => List.mem_range.1 hy) (e.length - j) j (by omega)).1
  · rw [List.count_eq_zero.2 (fun hm => by have := x3 j hm; omega), List.count_eq_zero.2 (fun hm => by have := List.mem_range.1 hm; omega)]
/-! ### One node more -/
structure GI (e : List CExpr) (n0 i : Nat) (H : Heap) (ps : List Nat) (O F : Nat → List Nat) : Prop where
  len : ps.length = i
  vec : H[n0]? = some (.vec (ps.map nptr ++ List.replicate (e.length - i) (.ptr none)) 1)
  tree : ∀ (k : Nat) (hk : k < ps.length), HT H (treeAt e k) ps[k] (F k)
  fp : ∀ k, k < i → F k = O k ++ (kidsOf e k).flatMap F
  nodup : ((List.range i).flatMap O).Nodup
  low : ∀ k, k < i → ∀ q ∈ O k, n0 < q ∧ q < H.length
theorem flat_mem_lt {e : List CExpr} {n0 i : Nat} {H : Heap} {ps : List Nat} {O F : Nat → List Nat} (h : GI e n0 i H ps O F) (hkd : ∀ p, ∀ j ∈ kidsOf e p, j < p) : ∀ k, k < i → ∀ q ∈ F k, n0 < q ∧ q < H.length := by
  intro k
  induction k using Nat.strongRecOn with
  | ind k ih =>
    intro hk q hq
    rw [h.fp k hk] at hq
    rcases List.mem_append.1 hq with hq | hq
    · exact h.low k hk q hq
    · obtain ⟨j, hj, hq⟩ := List.mem_flatMap.1 hq
      have := hkd k j hj
      exact ih j this (by omega) q hq
theorem GI.step {e : List CExpr} {n0 i : Nat} {H : Heap} {ps : List Nat} {O F : Nat → List Nat} (h : GI e n0 i H ps O F) (hT : TreeL e) (hi : i < e.length) {H4 : Heap} {pn : Nat} {bv : AVal} {fb fa : List Nat} {ow oa : Option (Option Nat)} {avs : List AVal}
    (hlen : H.length ≤ H4.length) (hkeep : ∀ q, q < H.length → q ≠ n0 → H4[q]? = H[q]?) (hvec : H4[n0]? = some (.vec ((ps ++ [pn]).map nptr ++ List.replicate (e.length - (i + 1)) (.ptr none)) 1))
    (hnode : H4[pn]? = some (nb e[i] bv (.list ((e[i].kids.map fun k => ps.getD k.toNat 0).map nptr) ow) (.list avs oa))) (hb : HInts H4 e[i].binds bv fb) (ha : HAlts H4 e[i].alts avs fa)
    (hnd : (pn :: (fb ++ fa)).Nodup) (hlow : ∀ q ∈ pn :: (fb ++ fa), H.length ≤ q ∧ n0 < q) :
    ∃ O' F', GI e n0 (i + 1) H4 (ps ++ [pn]) O' F' := by
  have hkd := treeL_kd hT
  have hl := h.len
  have hkids : kidsOf e i = e[i].kids.map Int.toNat := by unfold kidsOf; rw [List.getElem?_eq_getElem hi]
  have hki : ∀ k ∈ e[i].kids, k.toNat < i := fun k hk => hkd i k.toNat (by rw [hkids]; exact List.mem_map_of_mem hk)
  have hfl := flat_mem_lt h hkd
  let F' : Nat → List Nat := fun k => if k = i then pn :: (fb ++ (fa ++ (e[i].kids.map fun k => F k.toNat).flatten)) else F k
  let O' : Nat → List Nat := fun k => if k = i then pn :: (fb ++ fa) else O k
  have hF' : ∀ k, k < i → F' k = F k := fun k hk => if_neg (by omega)
  have hO' : ∀ k, k < i → O' k = O k := fun k hk => if_neg (by omega)
  have hFi : F' i = pn :: (fb ++ (fa ++ (e[i].kids.map fun k => F k.toNat).flatten)) := if_pos rfl
  have hOi : O' i = pn :: (fb ++ fa) := if_pos rfl
  have hflat : ∀ l : List Nat, (∀ k ∈ l, k < i) → l.flatMap F' = l.flatMap F := by
    intro l hl
    exact flat_congr fun k hk => hF' k (hl k hk)
  have hold : ∀ (k : Nat) (hk : k < ps.length), HT H4 (treeAt e k) ps[k] (F k) := fun k hk => (h.tree k hk).frame fun q hq => by
    have := hfl k (by omega) q hq
    exact hkeep q this.2 (by omega)
  refine ⟨O', F', by simp [hl], hvec, ?_, ?_, ?_, ?_⟩
  · intro k hk
    rw [List.length_append, List.length_singleton] at hk
    by_cases hki' : k < i
    · rw [hF' k hki', List.getElem_append_left (by omega)]
      exact hold k (by omega)
    · have : k = i := by omega
      subst this
      rw [hFi, List.getElem_append_right (by omega), treeAt_eq e hT.ahead k hi]
      simp only [hl, Nat.sub_self, List.getElem_cons_zero]
      refine .mk _ _ _ _ _ pn bv fb (e[k].kids.map fun q : Int => ps.getD q.toNat 0) ow _ avs oa fa hnode hb ha (by simp) (by simp) ?_
      intro j hj
      have hj' : j < e[k].kids.length := by simpa using hj
      have hm := hki _ (List.getElem_mem hj')
      simp only [List.getElem_map]
      rw [List.getD_eq_getElem?_getD, List.getElem?_eq_getElem (by omega)]
      exact hold _ _
  · intro k hk
    by_cases hki' : k < i
    · rw [hF' k hki', hO' k hki', hflat _ (fun j hj => by have := hkd k j hj; omega)]
      exact h.fp k hki'
    · have : k = i := by omega
      subst this
      rw [hFi, hOi, hflat _ (hkd k), hkids, List.flatMap_map, List.cons_append, List.append_assoc]
      rw [List.flatMap_def]
  · rw [List.range_succ, List.flatMap_append, List.flatMap_cons, List.flatMap_nil, List.append_nil, hOi]
    have : (List.range i).flatMap O' = (List.range i).flatMap O := flat_congr fun k hk => hO' k (List.mem_range.1 hk)
    rw [this]
    refine List.nodup_append.2 ⟨h.nodup, hnd, fun a ha' b hb' hab => ?_⟩
    subst hab
    obtain ⟨k, hk, hq⟩ := List.mem_flatMap.1 ha'
    have h1 := h.low k (List.mem_range.1 hk) _ hq
    have h2 := hlow _ hb'
    omega
  · intro k hk q hq
    by_cases hki' : k < i
    · rw [hO' k hki'] at hq
      have := h.low k hki' q hq
      exact ⟨this.1, by omega⟩
    · have : k = i := by omega
      subst this
      rw [hOi] at hq
      refine ⟨(hlow q hq).2, ?_⟩
      rcases List.mem_cons.1 hq with rfl | hq
      · exact hlt hnode
      · rcases List.mem_append.1 hq with hq | hq
        · exact hb.lt q hq
        · exact ha.lt q hq
end Go.Abs
/-
  Grow where the tree is written later, as a whole. Conditions: none.
-/
set_option linter.unusedVariables false
set_option linter.unusedSimpArgs false
set_option maxRecDepth 100000
set_option maxHeartbeats 4000000
namespace Go.Abs
section
variable {L : Lib}
theorem mgrow_l2 (hP : MPrims L) {b : Nat} (e : List CExpr) (hl : e.length < 2 ^ 30) (hf : ∀ x ∈ e, NodeFit x) (hT : TreeL e) (n0 : Nat) (H0 : Heap) (h0 : GI e n0 0 H0 [] (fun _ => []) (fun _ => [])) (hn0 : n0 + 1 = H0.length) :
    ∃ T, loopF L.pure (call L) b [1000000, 0, 3, 14, 15, 16] [1000000, 0, 3] 0 fm160_l2
      ⟨kt [0, 3, 14, 15, 16] [.list (e.map encExpr) none, .vec n0 e.length, .list (e.map encExpr) none, .int .i64 e.length, .int .i64 0], H0⟩ = some (.normal, T) ∧
      ∃ H ps O F, T = ⟨kt [0, 3] [.list (e.map encExpr) none, .vec n0 e.length], H⟩ ∧ GI e n0 e.length H ps O F ∧ H0.length ≤ H.length ∧ ∀ q, q < H0.length → q ≠ n0 → H[q]? = H0[q]? := by
  refine loopF_pred (pure := L.pure) (call := call L) (b := b) (id := 0) (body := fm160_l2)
    (fun i s => ∃ H ps O F, s = ⟨kt [0, 3, 14, 15, 16] [.list (e.map encExpr) none, .vec n0 e.length, .list (e.map encExpr) none, .int .i64 e.length, .int .i64 i], H⟩ ∧ GI e n0 i H ps O F ∧ H0.length ≤ H.length ∧ ∀ q, q < H0.length → q ≠ n0 → H[q]? = H0[q]?) e.length _ ?_ ?_ ?_
  · intro i s hi hs
    obtain ⟨H, ps, O, F, rfl, hG, hle, hke⟩ := hs
    obtain ⟨h1, h2, h3⟩ := round_c encExpr e hl i hi
    have hx := hf e[i] (List.getElem_mem hi)
    have hc := fun h => hP.clone e[i].binds h hx.binds
    have hlv := hlt hG.vec
    have hlook : ∀ k ∈ e[i].kids, 0 ≤ k ∧ k < e.length ∧ (ps.map nptr ++ List.replicate (e.length - i) (AVal.ptr none))[k.toNat]? = some (nptr (ps.getD k.toNat 0)) := by
      intro k hk
      have h1 := hT.ahead i hi k hk
      have hlen := hG.len
      refine ⟨h1.1, by omega, ?_⟩
      rw [List.getElem?_append_left (by simp; omega), List.getElem?_map, List.getD_eq_getElem?_getD, List.getElem?_eq_getElem (by omega)]
      rfl
    have hvl : (ps.map nptr ++ List.replicate (e.length - i) (AVal.ptr none)).length = e.length := by
      have := hG.len
      simp
      omega
    have hput : ∀ pn, (ps.map nptr ++ List.replicate (e.length - i) (AVal.ptr none)).take i ++ nptr pn :: (ps.map nptr ++ List.replicate (e.length - i) (AVal.ptr none)).drop (i + 1) = (ps ++ [pn]).map nptr ++ List.replicate (e.length - (i + 1)) (.ptr none) := by
      intro pn
      have hlen := hG.len
      rw [List.take_append_of_le_length (by simp; omega), List.take_of_length_le (by simp; omega), List.drop_append, List.drop_of_length_le (by simp; omega)]
      simp only [List.length_map, hlen, List.nil_append, List.drop_replicate, List.map_append, List.map_cons, List.map_nil, List.append_assoc, List.cons_append]
      congr 3
      omega
    have hstep := fun {H4 pn bv fb fa ow oa avs} => hG.step (H4 := H4) (pn := pn) (bv := bv) (fb := fb) (fa := fa) (ow := ow) (oa := oa) (avs := avs) hT hi
    have hvec := hG.vec
    generalize hcs : (ps.map nptr ++ List.replicate (e.length - i) (AVal.ptr none)) = cs at *
    generalize e[i] = x at *
    have fin : ∀ (mid : Heap) (bv : AVal) (fb : List Nat), leaf bv = true → (∀ H4 : Heap, (∀ q, q < H.length + 1 + mid.length → q ≠ n0 → H4[q]? = (H ++ (xbox x :: mid))[q]?) → HInts H4 x.binds bv fb) → fb.Nodup → (∀ q ∈ fb, H.length ≤ q ∧ q < H.length + 1 + mid.length) →
        ∃ H2 H3, (∀ b, loopF L.pure (call L) b [1000000, 0, 3, 4, 5, 6, 14, 15, 16, 31, 32, 33] [1000000, 0, 3, 4, 5, 6, 14, 15, 16] 2 fm160_l0 ⟨kt [0, 3, 4, 5, 6, 14, 15, 16, 31, 32, 33] [.list (e.map encExpr) none, .vec n0 e.length, .int .i64 i, nptr H.length, nptr (H.length + 1 + mid.length), .list (e.map encExpr) none, .int .i64 e.length, .int .i64 i, .list (x.kids.map encI) none, .int .i64 x.kids.length, .int .i64 0], H ++ (xbox x :: (mid ++ [nb x bv (.list [] (some none)) (.list [] (some none))]))⟩ = some (.normal, ⟨kt [0, 3, 4, 5, 6, 14, 15, 16] [.list (e.map encExpr) none, .vec n0 e.length, .int .i64 i, nptr H.length, nptr (H.length + 1 + mid.length), .list (e.map encExpr) none, .int .i64 e.length, .int .i64 i], H2⟩)) ∧ H2[H.length]? = some (xbox x) ∧
          loopF L.pure (call L) H2.length [1000000, 0, 3, 4, 6, 14, 15, 16, 52, 53, 54] [1000000, 0, 3, 4, 6, 14, 15, 16] 4 fm160_l1 ⟨kt [0, 3, 4, 6, 14, 15, 16, 52, 53, 54] [.list (e.map encExpr) none, .vec n0 e.length, .int .i64 i, nptr (H.length + 1 + mid.length), .list (e.map encExpr) none, .int .i64 e.length, .int .i64 i, .list (x.alts.map encAlt) none, .int .i64 x.alts.length, .int .i64 0], H2⟩ = some (.normal, ⟨kt [0, 3, 4, 6, 14, 15, 16] [.list (e.map encExpr) none, .vec n0 e.length, .int .i64 i, nptr (H.length + 1 + mid.length), .list (e.map encExpr) none, .int .i64 e.length, .int .i64 i], H3⟩) ∧ H3[n0]? = some (.vec cs 1) ∧
          ∃ O' F', GI e n0 (i + 1) (H3.set n0 (.vec (cs.take i ++ nptr (H.length + 1 + mid.length) :: cs.drop (i + 1)) 1)) (ps ++ [H.length + 1 + mid.length]) O' F' ∧ H.length ≤ H3.length ∧ ∀ q, q < H.length → q ≠ n0 → H3[q]? = H[q]? := by
      intro mid bv fb hlb hbi hfn hfb
      have hpn : (H ++ (xbox x :: (mid ++ [nb x bv (.list [] (some none)) (.list [] (some none))])))[H.length + 1 + mid.length]? = some (nb x bv (.list [] (some none)) (.list [] (some none))) := by
        rw [List.getElem?_append_right (by omega)]
        have : H.length + 1 + mid.length - H.length = mid.length + 1 := by omega
        rw [this, List.getElem?_cons_succ, List.getElem?_append_right (Nat.le_refl _), Nat.sub_self]
        rfl
      have hl0 := fun b => mgrow_l0 (L := L) (b := b) (.list (e.map encExpr) none) e.length n0 i x hx.kids cs e.length (fun k => ps.getD k.toNat 0) (H ++ (xbox x :: (mid ++ [nb x bv (.list [] (some none)) (.list [] (some none))]))) H.length (H.length + 1 + mid.length) bv
        (by rw [hga hlv]; exact hvec) hpn hlb (by omega) hlook
      have hpre : ∀ q, q < H.length + 1 + mid.length → (H ++ (xbox x :: (mid ++ [nb x bv (.list [] (some none)) (.list [] (some none))])))[q]? = (H ++ (xbox x :: mid))[q]? := by
        intro q hq
        have : H ++ (xbox x :: (mid ++ [nb x bv (.list [] (some none)) (.list [] (some none))])) = (H ++ (xbox x :: mid)) ++ [nb x bv (.list [] (some none)) (.list [] (some none))] := by simp
        rw [this]
        exact hga (by simp; omega)
      have hH1l : (H ++ (xbox x :: (mid ++ [nb x bv (.list [] (some none)) (.list [] (some none))]))).length = H.length + 1 + mid.length + 1 := by simp; omega
      generalize hkv : AVal.list ((x.kids.map fun k => ps.getD k.toNat 0).map nptr) (ownAt _ x.kids.length) = kv at hl0
      have hlk : leaf kv = true := by rw [← hkv]; rfl
      generalize hH1 : H ++ (xbox x :: (mid ++ [nb x bv (.list [] (some none)) (.list [] (some none))])) = H1 at *
      have hpl := hlt hpn
      obtain ⟨H2, hH2⟩ : ∃ H2, H2 = H1.set (H.length + 1 + mid.length) (nb x bv kv (.list [] (some none))) ++ tailAt 1 x.kids.length := ⟨_, rfl⟩
      have h2n : H2[H.length + 1 + mid.length]? = some (nb x bv kv (.list [] (some none))) := by rw [hH2, hga (by simpa using hpl), hgs hpl]
      have h2o : ∀ q, q < H.length + 1 + mid.length → H2[q]? = (H ++ (xbox x :: mid))[q]? := by
        intro q hq
        rw [hH2, hga (by simp; omega), hgn (by omega)]
        exact hpre q hq
      have h2l : H1.length ≤ H2.length := by rw [hH2]; simp
      simp only [← hH2] at hl0
      obtain ⟨T, ht, H3, avs, oa, fa, rfl, hA⟩ := mgrow_l1 hP (b := H2.length) (.list (e.map encExpr) none) e.length n0 i x hx.alts hx.each e.length H2 (H.length + 1 + mid.length) bv kv h2n hlb hlk
      have h3o : ∀ q, q < H.length + 1 + mid.length → H3[q]? = (H ++ (xbox x :: mid))[q]? := fun q hq => by rw [hA.keep q (by omega) (by omega), h2o q hq]
      have h3v : H3[n0]? = some (.vec cs 1) := by rw [h3o n0 (by omega), hga hlv]; exact hvec
      have h3l := hlt h3v
      have hAl := hA.len
      have hfl := hA.alts.lt
      obtain ⟨O', F', hG'⟩ := hstep (H4 := H3.set n0 (.vec (cs.take i ++ nptr (H.length + 1 + mid.length) :: cs.drop (i + 1)) 1)) (pn := H.length + 1 + mid.length) (bv := bv) (fb := fb) (fa := fa) (oa := oa) (avs := avs) (ow := ownAt H1.length x.kids.length)
        (by simp; omega) (fun q hq hq0 => by rw [hgn (by omega), h3o q (by omega), hga hq]) (by rw [hgs h3l, hput])
        (by rw [hgn (by omega), hA.node, ← hkv, hH1l]) (hbi _ fun q hq hq0 => by rw [hgn (by omega), h3o q hq])
        (by
          have := hA.alts
          rw [List.take_length] at this
          exact this.frame fun q hq => hgn (by have := (hA.low q hq).1; omega))
        (by
          refine List.nodup_cons.2 ⟨fun hm => ?_, List.nodup_append.2 ⟨hfn, hA.nodup, fun p hp q hq hpq => ?_⟩⟩
          · rcases List.mem_append.1 hm with hm | hm
            · have := (hfb _ hm).2; omega
            · have := (hA.low _ hm).1; omega
          · have h1 := (hfb _ hp).2
            have h2 := (hA.low _ hq).1
            omega)
        (by
          intro q hq
          rcases List.mem_cons.1 hq with rfl | hq
          · omega
          · rcases List.mem_append.1 hq with hq | hq
            · have := hfb q hq; omega
            · have := (hA.low q hq).1; omega)
      exact ⟨H2, H3, hl0, by rw [h2o _ (by omega), hgl rfl], ht, h3v, O', F', hG', by omega, fun q hq hq0 => by rw [h3o q (by omega), hga hq]⟩
    obtain ⟨r, hr0⟩ : ∃ r, roundF L.pure (call L) b [1000000, 0, 3, 14, 15, 16] [1000000, 0, 3] fm160_l2 ⟨kt [0, 3, 14, 15, 16] [.list (e.map encExpr) none, .vec n0 e.length, .list (e.map encExpr) none, .int .i64 e.length, .int .i64 i], H⟩ = r := ⟨_, rfl⟩
    have hr := hr0
    unfold fm160_l2 at hr
    rcases clone_cases x.binds with ⟨hv, ho⟩ | ⟨hv, ho⟩ <;> simp only [hv, ho] at hc
    · obtain ⟨H2, H3, f1, f2, f3, f4, O', F', f5, f6, f7⟩ := fin [] (.list [] none) [] rfl (fun H4 _ => .inl ⟨clone_nil ho, rfl, rfl⟩) List.nodup_nil (fun q hq => by cases hq)
      clear fin
      simp only [List.length_nil, List.nil_append, Nat.add_zero] at f1 f3 f5
      unfold xbox at f2
      unfold nptr at f1 f3
      unfold xbox nb at f1
      have hil : i + 1 ≤ e.length := by omega
      simp -implicitDefEqProofs only [code_skip, code_ops, code_draw, code_seq, code_cond, code_block, ops_cons, ops_nil, aOp, opd, upd_at, upd_none, kt_cons, stepVal, stepHeap, aBin, aLen, aInt, aIndexList, isShift, aWanted, aLoad1, aStore, readAt, aField, fillA, known, leaf, acells_agg, acells_int, acells_list, acells_ptr, cellsSet, code_loopF, gc_mk, isTrim_cons, draw_eq, opsH_nil, opsH_cons, isLoud, Option.map_some, List.map_cons, List.map_nil, List.length_cons, List.length_nil, List.length_append, List.length_map, List.cons_append, List.nil_append, List.append_nil, List.append_assoc, List.getElem?_cons_zero, List.getElem?_cons_succ, List.take_succ_cons, List.take_zero, List.drop_succ_cons, List.drop_zero, List.take_nil, List.drop_nil, List.all_cons, List.all_nil, List.mem_cons, List.not_mem_nil, ↓reduceIte, Bool.and_true, Bool.false_eq_true, or_false, decide_true, and_self, Nat.le_refl, reduceCtorEq, Nat.add_zero, Nat.zero_add, Nat.reduceEqDiff, Nat.reduceAdd, Nat.reduceSub, Nat.reduceLeDiff, Int.toNat_natCast, Int.natCast_nonneg, roundF_eq, checksP_cons, checksP_nil, checkP_eq, drawTo_if, forall_const, forall_eq_or_imp, forall_eq, kt_nil, encExpr_eq, Nat.mul_one, h1, h2, h3, hc, hga, hgl, hgl2, hsl, f1, f2, f3, f4, hvl, hlv, hil] at hr
      subst hr
      refine ⟨_, hr0, _, _, O', F', rfl, f5, by rw [List.length_set]; omega, fun q hq hq0 => ?_⟩
      rw [hgn (by omega), f7 q (by omega) hq0]
      exact hke q hq hq0
    · obtain ⟨H2, H3, f1, f2, f3, f4, O', F', f5, f6, f7⟩ := fin [.vec (x.binds.map encI) 1] (.vec (H.length + 1) x.binds.length) [H.length + 1] rfl (fun H4 h4 => .inr ⟨clone_cons ho, _, rfl, by rw [h4 _ (by simp) (by omega), hgl2 rfl], rfl⟩) (by simp) (fun q hq => by rw [List.mem_singleton.1 hq]; simp)
      clear fin
      simp only [List.length_nil, List.length_cons, List.cons_append, List.nil_append, Nat.zero_add, Nat.add_assoc, Nat.reduceAdd] at f1 f3 f5
      unfold xbox at f2
      unfold nptr at f1 f3
      unfold xbox nb at f1
      have hil : i + 1 ≤ e.length := by omega
      simp -implicitDefEqProofs only [code_skip, code_ops, code_draw, code_seq, code_cond, code_block, ops_cons, ops_nil, aOp, opd, upd_at, upd_none, kt_cons, stepVal, stepHeap, aBin, aLen, aInt, aIndexList, isShift, aWanted, aLoad1, aStore, readAt, aField, fillA, known, leaf, acells_agg, acells_int, acells_ptr, cellsSet, code_loopF, gc_mk, isTrim_cons, draw_eq, opsH_nil, opsH_cons, isLoud, Option.map_some, List.map_cons, List.map_nil, List.length_cons, List.length_nil, List.length_append, List.length_map, List.cons_append, List.nil_append, List.append_nil, List.append_assoc, List.getElem?_cons_zero, List.getElem?_cons_succ, List.take_succ_cons, List.take_zero, List.drop_succ_cons, List.drop_zero, List.take_nil, List.drop_nil, List.all_cons, List.all_nil, List.mem_cons, List.not_mem_nil, ↓reduceIte, Bool.and_true, Bool.false_eq_true, or_false, decide_true, and_self, Nat.le_refl, reduceCtorEq, Nat.add_zero, Nat.zero_add, Nat.reduceEqDiff, Nat.reduceAdd, Nat.reduceSub, Nat.reduceLeDiff, Int.toNat_natCast, Int.natCast_nonneg, roundF_eq, checksP_cons, checksP_nil, checkP_eq, drawTo_if, forall_const, forall_eq_or_imp, forall_eq, kt_nil, encExpr_eq, acells_vec, Nat.mul_one, h1, h2, h3, hc, hga, hgl, hgl2, hsl, f1, f2, f3, f4, hvl, hlv, hil] at hr
      subst hr
      refine ⟨_, hr0, _, _, O', F', rfl, f5, by rw [List.length_set]; omega, fun q hq hq0 => ?_⟩
      rw [hgn (by omega), f7 q (by omega) hq0]
      exact hke q hq hq0
  · intro s hs
    obtain ⟨H, ps, O, F, rfl, hG⟩ := hs
    have h0 := append_c e.length
    refine ⟨_, ?_, H, ps, O, F, rfl, hG⟩
    unfold fm160_l2
    simp -implicitDefEqProofs only [code_ops, code_seq, code_cond, code_exit, ops_cons, ops_nil, aOp, opd, upd_at, kt_cons, stepVal, aBin, aInt, isShift, gcE, gc_mk, isTrim_cons, List.map_cons, List.map_nil, List.drop_succ_cons, List.drop_zero, ↓reduceIte, Bool.false_eq_true, decide_true, decide_false, reduceCtorEq, Nat.reduceEqDiff, roundF_eq, h0]
  · exact ⟨H0, [], _, _, rfl, h0, Nat.le_refl _, fun _ _ _ => rfl⟩
theorem mgrow_ok (hL : Plain L) (hP : MPrims L) (h160 : L.fns 160 = some fm160) (e : List CExpr) (hl : e.length < 2 ^ 30) (hf : ∀ x ∈ e, NodeFit x) (hT : TreeL e) (h : Heap) :
    ∃ H p fp, call L 160 [.list (e.map encExpr) none] h = some (.val (nptr p), H) ∧ HT H (grow1 e) p fp ∧ fp.Nodup ∧ (∀ q ∈ fp, h.length < q) ∧ h.length ≤ H.length ∧ ∀ q, q < h.length → H[q]? = h[q]? := by
  have hpos := hT.pos
  have hG0 : GI e h.length 0 (h ++ [.vec (List.replicate e.length (.ptr none)) 1]) [] (fun _ => []) (fun _ => []) :=
    ⟨rfl, by rw [hgl rfl]; rfl, fun k hk => absurd hk (by simp), fun k hk => absurd hk (by omega), List.nodup_nil, fun k hk => absurd hk (by omega)⟩
  obtain ⟨T, ht, H, ps, O, F, rfl, hG, hle, hke⟩ := mgrow_l2 hP (b := h.length + 1) e hl hf hT h.length _ hG0 (by simp)
  have hlen := hG.len
  have hperm := fp_perm hT O F (fun k hk => hG.fp k hk)
  have hge := hG.tree (e.length - 1) (by omega)
  have hget : (ps.map nptr ++ List.replicate (e.length - e.length) (AVal.ptr none))[e.length - 1]? = some (nptr (ps[e.length - 1]'(by omega))) := by
    rw [List.getElem?_append_left (by simp; omega), List.getElem?_map, List.getElem?_eq_getElem (by omega)]
    rfl
  have hv := hG.vec
  have hfl := flat_mem_lt hG (treeL_kd hT) (e.length - 1) (by omega)
  refine ⟨H, ps[e.length - 1]'(by omega), F (e.length - 1), ?_, ?_, hperm.nodup_iff.2 hG.nodup, fun q hq => (hfl q hq).1, by simp at hle; omega, fun q hq => ?_⟩
  · generalize (ps.map nptr ++ List.replicate (e.length - e.length) (AVal.ptr none)) = cs at *
    generalize ps[e.length - 1]'(by omega) = p at *
    have w : IntKind.i64.wrap ((e.length : Int) - 1) = ((e.length - 1 : Nat) : Int) := by rw [wrap64 (by omega) (by omega)]; omega
    have b : (((e.length - 1 : Nat) : Int) < e.length) := by omega
    have hn : ((e.length : Int) ≤ 1073741824) := by omega
    refine call_of (hL.summ 160 (by rw [h160]; simp)) h160 ?_
    unfold fm160
    unfold nptr at *
    simp -implicitDefEqProofs only [code_ops, code_seq, code_ret, ops_cons, ops_nil, aOp, opd, upd_at, initTm_at, kt_cons, stepVal, aBin, aLen, aInt, aIndexList, isShift, aLoad1, endFn, aResults, aResult, tupled, code_loopF, gc_mk, isTrim_cons, Option.getD_some, List.map_cons, List.map_nil, List.length_cons, List.length_nil, List.length_append, List.length_map, List.getElem?_cons_zero, List.drop_succ_cons, List.drop_zero, ↓reduceIte, Bool.false_eq_true, decide_true, and_self, reduceCtorEq, Nat.zero_add, Nat.reduceEqDiff, Int.toNat_natCast, Int.natCast_nonneg, Nat.mul_one, Int.le_refl, ht, hv, hget, w, b, hn]
  · rw [grow1_eq]
    exact hge
  · rw [hke q (by simp; omega) (by omega), hga hq]
end
end Go.Abs
