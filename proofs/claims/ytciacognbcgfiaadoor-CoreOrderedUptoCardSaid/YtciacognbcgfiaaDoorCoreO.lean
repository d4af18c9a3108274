/-
  Trees and their lists: the plain laws. Conditions: none.
-/
import Derived.Test.YtciacognbcgfiaaDoorCoreN

set_option linter.unusedVariables false
set_option linter.unusedSimpArgs false
set_option maxRecDepth 100000
set_option maxHeartbeats 4000000
namespace Go.Abs
def rootOp : CTree → Int
  | .mk op _ _ _ _ => op
mutual
def nodesT : CTree → List Lab
  | .mk op n binds kids alts => nodesTs kids ++ [⟨op, n, binds, kids.map rootOp, alts⟩]
def nodesTs : List CTree → List Lab
  | [] => []
  | k :: ks => nodesT k ++ nodesTs ks
end
mutual
def tsize : CTree → Nat
  | .mk _ _ _ kids _ => tsizes kids + 1
def tsizes : List CTree → Nat
  | [] => 0
  | k :: ks => tsize k + tsizes ks
end
theorem tsize_pos (t : CTree) : 0 < tsize t := by cases t; rw [tsize]; omega
mutual
theorem nodes_len : ∀ t : CTree, (nodesT t).length = tsize t
  | .mk op n binds kids alts => by rw [nodesT, tsize, List.length_append, nodes_lens kids]; rfl
theorem nodes_lens : ∀ ks : List CTree, (nodesTs ks).length = tsizes ks
  | [] => by rw [nodesTs, tsizes]; rfl
  | k :: ks => by rw [nodesTs, tsizes, List.length_append, nodes_len k, nodes_lens ks]
end

/-! ### The nodes of a list that is a tree are those of its tree -/
def kidsOf (e : List CExpr) (p : Nat) : List Nat := match e[p]? with | some x => x.kids.map Int.toNat | none => []
def labAt (e : List CExpr) (p : Nat) : Lab := match e[p]? with | some x => labX e x | none => ⟨0, 0, [], [], []⟩
theorem rootOp_at (e : List CExpr) (hk : Ahead e) (k : Int) (h0 : 0 ≤ k) (h1 : k < e.length) : rootOp (treeAt e k.toNat) = opAt e k := by
  have hi : k.toNat < e.length := by omega
  rw [treeAt_eq e hk k.toNat hi]
  unfold opAt
  rw [List.getElem?_eq_getElem hi]
  rfl
theorem flat_congr {α β : Type} {f g : α → List β} : ∀ {l : List α}, (∀ x ∈ l, f x = g x) → l.flatMap f = l.flatMap g
  | [], _ => rfl
  | x :: l, h => by rw [List.flatMap_cons, List.flatMap_cons, h x (by simp), flat_congr fun y hy => h y (by simp [hy])]
theorem flat_cons_perm {α : Type} (g : α → List α) : ∀ l : List α, (l.flatMap fun k => k :: g k).Perm (l ++ l.flatMap g)
  | [] => .refl _
  | k :: l => by
    rw [List.flatMap_cons, List.flatMap_cons, List.cons_append, List.cons_append]
    refine List.Perm.cons k ?_
    refine ((flat_cons_perm g l).append_left (g k)).trans ?_
    rw [← List.append_assoc, ← List.append_assoc]
    exact List.perm_append_comm.append_right _
theorem nodes_idx (e : List CExpr) (hk : Ahead e) : ∀ (i : Nat), i < e.length → ∃ X : List Nat, nodesT (treeAt e i) = X.map (labAt e) ∧ X.Perm (i :: X.flatMap (kidsOf e)) ∧ ∀ x ∈ X, x ≤ i := by
  intro i
  induction i using Nat.strongRecOn with
  | ind i ih =>
    intro hi
    have key : ∀ ks : List Int, (∀ k ∈ ks, 0 ≤ k ∧ k < i) → ∃ Y : List Nat, nodesTs (ks.map fun k => treeAt e k.toNat) = Y.map (labAt e) ∧ Y.Perm (ks.map Int.toNat ++ Y.flatMap (kidsOf e)) ∧ ∀ y ∈ Y, y < i := by
      intro ks
      induction ks with
      | nil => intro _; exact ⟨[], by rw [List.map_nil, nodesTs]; rfl, .refl _, by simp⟩
      | cons k ks ihk =>
        intro h
        obtain ⟨k0, k1⟩ := h k (by simp)
        obtain ⟨Y, y1, y2, y3⟩ := ihk fun x hx => h x (by simp [hx])
        obtain ⟨X, x1, x2, x3⟩ := ih k.toNat (by omega) (by omega)
        refine ⟨X ++ Y, by rw [List.map_cons, nodesTs, x1, y1, List.map_append], ?_, fun z hz => ?_⟩
        · rw [List.flatMap_append, List.map_cons, List.cons_append]
          refine (x2.append y2).trans ?_
          rw [List.cons_append]
          refine List.Perm.cons _ ?_
          rw [← List.append_assoc, ← List.append_assoc]
          exact List.perm_append_comm.append_right _
        · rcases List.mem_append.1 hz with hz | hz
          · have := x3 z hz; omega
          · exact y3 z hz
    obtain ⟨Y, y1, y2, y3⟩ := key e[i].kids (hk i hi)
    have hki : kidsOf e i = e[i].kids.map Int.toNat := by unfold kidsOf; rw [List.getElem?_eq_getElem hi]
    have hli : labAt e i = labX e e[i] := by unfold labAt; rw [List.getElem?_eq_getElem hi]
    refine ⟨Y ++ [i], ?_, ?_, ?_⟩
    · rw [treeAt_eq e hk i hi, nodesT, y1, List.map_append]
      congr 1
      show [_] = [_]
      rw [hli]
      unfold labX
      rw [List.map_map]
      congr 2
      refine List.map_congr_left fun k hkm => ?_
      obtain ⟨k0, k1⟩ := hk i hi k hkm
      exact rootOp_at e hk k k0 (by omega)
    · rw [List.flatMap_append, List.flatMap_cons, List.flatMap_nil, List.append_nil, hki]
      refine List.perm_append_comm.trans ?_
      rw [List.cons_append, List.nil_append]
      exact List.Perm.cons _ (y2.trans List.perm_append_comm)
    · intro x hx
      rcases List.mem_append.1 hx with hx | hx
      · have := y3 x hx; omega
      · have := List.mem_singleton.1 hx; omega
/-- Two lists that are closed alike have each element alike often. -/
theorem closed_count (kd : Nat → List Nat) (hk : ∀ p, ∀ j ∈ kd p, j < p) (r N : Nat) (X Y : List Nat) (hX : X.Perm (r :: X.flatMap kd)) (hY : Y.Perm (r :: Y.flatMap kd)) (bX : ∀ x ∈ X, x < N) (bY : ∀ y ∈ Y, y < N) :
    ∀ (d j : Nat), j + d = N → X.count j = Y.count j ∧ ∀ i, j ≤ i → X.count i = Y.count i := by
  have split : ∀ (Z : List Nat) (j : Nat), (Z.flatMap kd).count j = ((Z.filter fun p => decide (j < p)).flatMap kd).count j := by
    intro Z j
    induction Z with
    | nil => rfl
    | cons z Z ih =>
      rw [List.flatMap_cons, List.count_append, ih]
      by_cases h : j < z
      · rw [List.filter_cons_of_pos (by simpa using h), List.flatMap_cons, List.count_append]
      · rw [List.filter_cons_of_neg (by simpa using h), List.count_eq_zero.2 (fun hm => h (hk z j hm)), Nat.zero_add]
  intro d
  induction d with
  | zero =>
    intro j hj
    have h0 : ∀ i, j ≤ i → X.count i = Y.count i := by
      intro i hi
      rw [List.count_eq_zero.2 (fun hm => by have := bX i hm; omega), List.count_eq_zero.2 (fun hm => by have := bY i hm; omega)]
    exact ⟨h0 j (by omega), h0⟩
  | succ d ih =>
    intro j hj
    obtain ⟨_, hup⟩ := ih (j + 1) (by omega)
    have hj' : X.count j = Y.count j := by
      rw [hX.count_eq, hY.count_eq, List.count_cons, List.count_cons, split X j, split Y j]
      have hp : (X.filter fun p => decide (j < p)).Perm (Y.filter fun p => decide (j < p)) := by
        rw [List.perm_iff_count]
        intro i
        by_cases hi : j < i
        · rw [List.count_filter (by simpa using hi), List.count_filter (by simpa using hi)]
          exact hup i (by omega)
        · rw [List.count_eq_zero.2 (by simp [hi]), List.count_eq_zero.2 (by simp [hi])]
      rw [(hp.flatMap_right kd).count_eq]
    refine ⟨hj', fun i hi => ?_⟩
    by_cases h : i = j
    · rw [h]; exact hj'
    · exact hup i (by omega)
theorem range_closed (e : List CExpr) (h : TreeL e) : (List.range e.length).Perm ((e.length - 1) :: (List.range e.length).flatMap (kidsOf e)) := by
  have hflat : (List.range e.length).flatMap (kidsOf e) = (e.flatMap (·.kids)).map Int.toNat := by
    have : ∀ l : List CExpr, (l.flatMap (·.kids)).map Int.toNat = l.flatMap fun x => x.kids.map Int.toNat := by
      intro l
      rw [List.map_flatMap]
    rw [this]
    have h2 : e = (List.range e.length).map fun i => (e[i]?).getD ⟨0, 0, [], [], []⟩ := by
      refine List.ext_getElem (by simp) fun i h1 h2 => ?_
      simp [h1]
    conv => rhs; rw [h2, List.flatMap_map]
    refine flat_congr fun i hi => ?_
    have hi := List.mem_range.1 hi
    unfold kidsOf
    simp [hi]
  have hkm : ∀ k ∈ e.flatMap (·.kids), 0 ≤ k ∧ k.toNat + 1 < e.length := by
    intro k hk
    obtain ⟨x, hx, hkx⟩ := List.mem_flatMap.1 hk
    obtain ⟨j, hj, rfl⟩ := List.getElem_of_mem hx
    have := h.ahead j hj k hkx
    omega
  rw [hflat, List.perm_iff_count]
  intro j
  have hc : ((e.flatMap (·.kids)).map Int.toNat).count j = (e.flatMap (·.kids)).count (j : Int) := by
    generalize e.flatMap (·.kids) = l at hkm
    induction l with
    | nil => rfl
    | cons k l ih =>
      rw [List.map_cons, List.count_cons, List.count_cons, ih fun x hx => hkm x (by simp [hx])]
      have := (hkm k (by simp)).1
      congr 1
      by_cases hkj : k = (j : Int)
      · subst hkj; simp
      · have : ¬ k.toNat = j := by omega
        simp [hkj, this]
  rw [List.count_cons, hc, List.count_range]
  by_cases h1 : j + 1 < e.length
  · rw [h.once j h1, if_pos (by omega)]
    have : ¬ e.length - 1 = j := by omega
    simp [this]
  · have hz : (e.flatMap (·.kids)).count (j : Int) = 0 := List.count_eq_zero.2 fun hm => by have := (hkm _ hm).2; omega
    rw [hz]
    have := h.pos
    by_cases h2 : e.length - 1 = j
    · rw [if_pos (by omega)]; simp [h2]
    · rw [if_neg (by omega)]; simp [h2]
theorem nodes_perm (e : List CExpr) (h : TreeL e) : (nodesT (grow1 e)).Perm (e.map (labX e)) := by
  have hpos := h.pos
  obtain ⟨X, x1, x2, x3⟩ := nodes_idx e h.ahead (e.length - 1) (by omega)
  have hkd : ∀ p, ∀ j ∈ kidsOf e p, j < p := by
    intro p j hj
    unfold kidsOf at hj
    cases hq : e[p]? with
    | none => rw [hq] at hj; cases hj
    | some x =>
      rw [hq] at hj
      obtain ⟨k, hk, rfl⟩ := List.mem_map.1 hj
      obtain ⟨hp, rfl⟩ := List.getElem?_eq_some_iff.1 hq
      have := h.ahead p hp k hk
      omega
  have hperm : X.Perm (List.range e.length) := by
    rw [List.perm_iff_count]
    intro j
    by_cases hj : j < e.length
    · exact (closed_count (kidsOf e) hkd (e.length - 1) e.length X (List.range e.length) x2 (range_closed e h) (fun x hx => by have := x3 x hx; omega) (fun y hy => List.mem_range.1 hy) (e.length - j) j (by omega)).1
    · rw [List.count_eq_zero.2 (fun hm => by have := x3 j hm; omega), List.count_eq_zero.2 (fun hm => by have := List.mem_range.1 hm; omega)]
  rw [grow1_eq, x1]
  refine (hperm.map _).trans ?_
  have : (List.range e.length).map (labAt e) = e.map (labX e) := by
    refine List.ext_getElem (by simp) fun i h1 h2 => ?_
    simp only [List.getElem_map, List.getElem_range]
    unfold labAt
    rw [List.getElem?_eq_getElem (by simpa using h1)]
  rw [this]
theorem tsize_grow (e : List CExpr) (h : TreeL e) : tsize (grow1 e) = e.length := by
  rw [← nodes_len, (nodes_perm e h).length_eq, List.length_map]
end Go.Abs
