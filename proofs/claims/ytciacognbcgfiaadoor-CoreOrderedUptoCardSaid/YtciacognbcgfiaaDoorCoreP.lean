/-
  The list of a tree is that tree: the plain laws. Conditions: none.
-/
import Derived.Test.YtciacognbcgfiaaDoorCoreO

set_option linter.unusedVariables false
set_option linter.unusedSimpArgs false
set_option maxRecDepth 100000
set_option maxHeartbeats 4000000
namespace Go.Abs
def rootsTs : List CTree → Nat → List Int
  | [], _ => []
  | k :: ks, b => ((b + tsize k - 1 : Nat) : Int) :: rootsTs ks (b + tsize k)
mutual
def listT : CTree → Nat → List CExpr
  | .mk op n binds kids alts, b => listTs kids b ++ [⟨op, n, binds, rootsTs kids b, alts⟩]
def listTs : List CTree → Nat → List CExpr
  | [], _ => []
  | k :: ks, b => listT k b ++ listTs ks (b + tsize k)
end
def listOf (t : CTree) : List CExpr := listT t 0
mutual
def subs : CTree → List CTree
  | .mk op n binds kids alts => subsL kids ++ [.mk op n binds kids alts]
def subsL : List CTree → List CTree
  | [] => []
  | k :: ks => subs k ++ subsL ks
end
mutual
theorem list_len : ∀ (t : CTree) (b : Nat), (listT t b).length = tsize t
  | .mk op n binds kids alts, b => by rw [listT, tsize, List.length_append, list_lens kids b]; rfl
theorem list_lens : ∀ (ks : List CTree) (b : Nat), (listTs ks b).length = tsizes ks
  | [], b => by rw [listTs, tsizes]; rfl
  | k :: ks, b => by rw [listTs, tsizes, List.length_append, list_len k, list_lens ks]
end
mutual
theorem subs_len : ∀ t : CTree, (subs t).length = tsize t
  | .mk op n binds kids alts => by rw [subs, tsize, List.length_append, subs_lens kids]; rfl
theorem subs_lens : ∀ ks : List CTree, (subsL ks).length = tsizes ks
  | [] => by rw [subsL, tsizes]; rfl
  | k :: ks => by rw [subsL, tsizes, List.length_append, subs_len k, subs_lens ks]
end
theorem subs_last (t : CTree) (ts zs : List CTree) : (ts ++ subs t ++ zs).getD (ts.length + tsize t - 1) .none = t := by
  cases t with
  | mk op n binds kids alts =>
    have h := subs_lens kids
    rw [subs, tsize, List.getD_eq_getElem?_getD, List.append_assoc, List.getElem?_append_right (by omega), List.append_assoc, List.getElem?_append_right (by omega), List.cons_append, List.nil_append]
    rw [show ts.length + (tsizes kids + 1) - 1 - ts.length - (subsL kids).length = 0 by omega]
    rfl
theorem roots_look : ∀ (ks ts zs : List CTree), (rootsTs ks ts.length).map (fun k => (ts ++ subsL ks ++ zs).getD k.toNat .none) = ks
  | [], ts, zs => rfl
  | k :: ks, ts, zs => by
    rw [rootsTs, List.map_cons, subsL]
    congr 1
    · have := subs_last k ts (subsL ks ++ zs)
      rw [← List.append_assoc] at this
      rw [← List.append_assoc]
      exact this
    · have := roots_look ks (ts ++ subs k) zs
      rw [List.length_append, subs_len] at this
      rw [← List.append_assoc]
      exact this
mutual
theorem grow_list : ∀ (t : CTree) (ts : List CTree), (listT t ts.length).foldl growStep ts = ts ++ subs t
  | .mk op n binds kids alts, ts => by
    rw [listT, List.foldl_append, grow_lists kids ts, List.foldl_cons, List.foldl_nil, subs, ← List.append_assoc]
    unfold growStep
    dsimp only
    have := roots_look kids ts []
    rw [List.append_nil] at this
    rw [this]
theorem grow_lists : ∀ (ks : List CTree) (ts : List CTree), (listTs ks ts.length).foldl growStep ts = ts ++ subsL ks
  | [], ts => by rw [listTs, subsL, List.append_nil]; rfl
  | k :: ks, ts => by
    rw [listTs, List.foldl_append, grow_list k ts]
    have := grow_lists ks (ts ++ subs k)
    rw [List.length_append, subs_len] at this
    rw [this, subsL, List.append_assoc]
end
theorem grow1_list (t : CTree) : grow1 (listOf t) = t := by
  unfold grow1 growAll listOf
  have h := grow_list t []
  rw [List.length_nil] at h
  rw [h, list_len]
  have := subs_last t [] []
  rw [List.append_nil, List.length_nil, Nat.zero_add] at this
  exact this
/-- Kids lie ahead, where the list begins at b. -/
def AheadB (b : Nat) (l : List CExpr) : Prop := ∀ (i : Nat) (hi : i < l.length), ∀ k ∈ l[i].kids, 0 ≤ k ∧ k < b + i
theorem AheadB.append {b : Nat} {l m : List CExpr} (h1 : AheadB b l) (h2 : AheadB (b + l.length) m) : AheadB b (l ++ m) := by
  intro i hi k hk
  by_cases h : i < l.length
  · rw [List.getElem_append_left h] at hk
    exact h1 i h k hk
  · rw [List.getElem_append_right (by omega)] at hk
    rw [List.length_append] at hi
    have := h2 (i - l.length) (by omega) k hk
    omega
theorem roots_bound : ∀ (ks : List CTree) (b : Nat), ∀ k ∈ rootsTs ks b, 0 ≤ k ∧ k < b + tsizes ks
  | [], b, k, h => by cases h
  | t :: ks, b, k, h => by
    have hp := tsize_pos t
    rw [rootsTs] at h
    rw [tsizes]
    rcases List.mem_cons.1 h with rfl | h
    · omega
    · have := roots_bound ks (b + tsize t) k h
      omega
mutual
theorem ahead_list : ∀ (t : CTree) (b : Nat), AheadB b (listT t b)
  | .mk op n binds kids alts, b => by
    rw [listT]
    refine (ahead_lists kids b).append ?_
    intro i hi k hk
    rw [List.length_singleton] at hi
    have hi0 : i = 0 := by omega
    subst hi0
    have := roots_bound kids b k hk
    rw [list_lens]
    omega
theorem ahead_lists : ∀ (ks : List CTree) (b : Nat), AheadB b (listTs ks b)
  | [], b => by rw [listTs]; intro i hi; simp at hi
  | k :: ks, b => by
    rw [listTs]
    refine (ahead_list k b).append ?_
    rw [list_len]
    exact ahead_lists ks (b + tsize k)
end
theorem range'_snoc (b n : Nat) : List.range' b (n + 1) = List.range' b n ++ [b + n] := by
  rw [← List.range'_append_1 (s := b) (m := n) (n := 1)]
  rfl
mutual
theorem kids_list : ∀ (t : CTree) (b : Nat), (((b + tsize t - 1 : Nat) : Int) :: (listT t b).flatMap (·.kids)).Perm ((List.range' b (tsize t)).map Int.ofNat)
  | .mk op n binds kids alts, b => by
    have h := kids_lists kids b
    rw [listT, tsize, List.flatMap_append, List.flatMap_cons, List.flatMap_nil, List.append_nil, range'_snoc, List.map_append]
    refine (List.Perm.cons _ (List.perm_append_comm.trans h)).trans ?_
    rw [show b + (tsizes kids + 1) - 1 = b + tsizes kids by omega]
    exact List.perm_append_comm (l₁ := [_])
theorem kids_lists : ∀ (ks : List CTree) (b : Nat), (rootsTs ks b ++ (listTs ks b).flatMap (·.kids)).Perm ((List.range' b (tsizes ks)).map Int.ofNat)
  | [], b => by rw [listTs, tsizes, rootsTs]; exact .refl _
  | k :: ks, b => by
    have h1 := kids_list k b
    have h2 := kids_lists ks (b + tsize k)
    rw [rootsTs, listTs, tsizes, List.flatMap_append, ← List.range'_append_1, List.map_append]
    refine List.Perm.trans ?_ (h1.append h2)
    rw [List.cons_append, List.cons_append]
    refine List.Perm.cons _ ?_
    rw [← List.append_assoc, ← List.append_assoc]
    exact List.perm_append_comm.append_right _
end
theorem tree_list (t : CTree) : TreeL (listOf t) := by
  refine ⟨by unfold listOf; rw [list_len]; exact tsize_pos t, ?_, ?_⟩
  · intro i hi k hk
    have := ahead_list t 0 i hi k hk
    omega
  · intro m hm
    unfold listOf at hm ⊢
    rw [list_len] at hm
    have h := (kids_list t 0).count_eq (m : Int)
    rw [List.count_cons] at h
    have h1 : ((List.range' 0 (tsize t)).map Int.ofNat).count (m : Int) = 1 := by
      have : ∀ l : List Nat, (l.map Int.ofNat).count (m : Int) = l.count m := by
        intro l
        induction l with
        | nil => rfl
        | cons x l ih =>
          rw [List.map_cons, List.count_cons, List.count_cons, ih]
          congr 1
          by_cases hx : x = m
          · subst hx; simp
          · have h3 : ¬ (x : Int) = (m : Int) := by omega
            simp [hx, h3]
      rw [this, ← List.range_eq_range', List.count_range, if_pos (by omega)]
    rw [h1] at h
    have h2 : ¬ (((0 + tsize t - 1 : Nat) : Int) == (m : Int)) = true := by simp; omega
    rw [if_neg h2] at h
    exact h
end Go.Abs
