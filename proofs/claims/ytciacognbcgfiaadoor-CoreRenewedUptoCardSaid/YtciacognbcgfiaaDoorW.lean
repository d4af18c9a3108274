/-
  PARTS OF A PROOF, joined: an abstract machine for quiet code, its evaluation, and what the seat's functions answer on it. Conditions: none.
-/
import Derived.Test.YtciacognbcgfiaaDoorCoreV
import Derived.Test.YtciacognbcgfiaaDoorC
/-
  The tree of a part, its size, and the calls that tell of it. Conditions: none.
-/
set_option linter.unusedVariables false
set_option linter.unusedSimpArgs false
set_option maxRecDepth 100000
set_option maxHeartbeats 4000000
namespace Go.Abs
section
variable {L : Lib} (hL : Plain L)
include hL
end
/-! ### Subtrees -/
theorem treeL_kd {e : List CExpr} (h : TreeL e) : ∀ p, ∀ j ∈ kidsOf e p, j < p := by
  intro p j hj
  unfold kidsOf at hj
  cases hq : e[p]? with
  | none => rw [hq] at hj; cases hj
  | some x =>
    rw [hq] at hj
    obtain ⟨k, hk, rfl⟩ := List.mem_map.1 hj
    obtain ⟨hp, rfl⟩ := List.getElem?_eq_some_iff.1 hq
    have := h.ahead p hp k hk
    omega
def labBinds (l : Lab) : List Int := bindersOf l.op l.binds l.alts
structure TOk (t : CTree) : Prop where
  size : tsize t ≤ 4096
  deep : hgt t ≤ 400
  lab : ∀ l ∈ nodesT t, labErr false l = 0
  once : ((nodesT t).flatMap labBinds).Nodup
theorem binders_lab (e l : List CExpr) : l.flatMap bindersX = (l.map (labX e)).flatMap labBinds := by
  rw [List.flatMap_map]
  rfl
theorem tok_of {e : List CExpr} (h : checkErr e = 0) : TOk (grow1 e) := by
  obtain ⟨a, b, c, d, f, g⟩ := check_tree h
  have hp := nodes_perm e a
  refine ⟨by rw [tsize_grow e a]; exact b, c, fun l hl => ?_, ?_⟩
  · obtain ⟨x, hx, rfl⟩ := List.mem_map.1 (hp.mem_iff.1 hl)
    exact d x hx
  · rw [binders_lab e] at f
    exact ((hp.flatMap_right _).nodup_iff).2 f
/-- The check of a tree's list. -/
theorem check_listOf {t : CTree} (h : TOk t) : checkErr (listOf t) = if freeOf t = [] then 0 else 6 := by
  have hT := tree_list t
  have hg := grow1_list t
  have hp := nodes_perm _ hT
  rw [hg] at hp
  have h1 : treeErr (listOf t) = 0 := (treeErr_zero _).2 ⟨hT, by unfold listOf; rw [list_len]; exact h.size, by rw [hg]; exact h.deep⟩
  have h2 : firstErr ((listOf t).map fun x => labErr false (labX (listOf t) x)) = 0 := (firstErr_zero _ _).2 fun x hx => h.lab _ (hp.mem_iff.2 (List.mem_map_of_mem hx))
  have h3 : ((listOf t).flatMap bindersX).Nodup := by
    rw [binders_lab (listOf t)]
    exact ((hp.flatMap_right _).nodup_iff).1 h.once
  unfold checkErr bodyErr
  rw [if_neg (fun hx => hx h1), if_neg (fun hx => hx h2), twice_nodup, hg]
  simp only [h3, decide_true, Bool.not_true, Bool.false_eq_true, if_false]
  cases freeOf t with
  | nil => simp
  | cons n l => simp [inI']
section
variable {L : Lib} (hC : CLib2 L)
include hC
end
end Go.Abs
/-
  Free, Size and Cut, and the law CoreCut on the machine. Conditions: none.
-/
set_option linter.unusedVariables false
set_option linter.unusedSimpArgs false
set_option maxRecDepth 100000
set_option maxHeartbeats 4000000
namespace Go.Abs
section
variable {L : Lib} (hC : CLib2 L)
include hC
end
end Go.Abs
/-
  What is free in a tree: membership, without the machine. Conditions: none.
-/
set_option linter.unusedVariables false
set_option linter.unusedSimpArgs false
set_option maxRecDepth 100000
namespace Go.Abs
mutual
/-- An identifier occurs freely in a tree. -/
def FreeIn (v : Int) : CTree → Prop
  | .mk op n binds kids alts => (op = 0 ∧ n = v) ∨ FreeInKs v op binds alts kids 0
def FreeInKs (v op : Int) (binds : List Int) (alts : List CAlt) : List CTree → Nat → Prop
  | [], _ => False
  | k :: ks, i => (FreeIn v k ∧ v ∉ boundOf op binds alts i) ∨ FreeInKs v op binds alts ks (i + 1)
end
theorem freeInKs_iff (v op : Int) (binds : List Int) (alts : List CAlt) : ∀ (ks : List CTree) (i : Nat), FreeInKs v op binds alts ks i ↔ ∃ j, ∃ hj : j < ks.length, FreeIn v ks[j] ∧ v ∉ boundOf op binds alts (i + j)
  | [], i => by rw [FreeInKs]; simp
  | k :: ks, i => by
    rw [FreeInKs, freeInKs_iff v op binds alts ks (i + 1)]
    constructor
    · rintro (h | ⟨j, hj, h⟩)
      · exact ⟨0, by simp, by simpa using h⟩
      · exact ⟨j + 1, by simpa using hj, by simpa [Nat.add_assoc, Nat.add_comm 1 j] using h⟩
    · rintro ⟨j, hj, h⟩
      cases j with
      | zero => exact .inl (by simpa using h)
      | succ j => exact .inr ⟨j, by simpa using hj, by simpa [Nat.add_assoc, Nat.add_comm 1 j] using h⟩
theorem findK_keys {β : Type} (v : Int) : ∀ m : IM β, (findK v m).isSome = true ↔ v ∈ keysOf m
  | [] => by simp [findK, keysOf]
  | p :: m => by
    unfold findK keysOf
    rw [List.map_cons, List.mem_cons]
    by_cases h : v = p.1
    · simp [h]
    · rw [if_neg h]
      have := findK_keys v m
      unfold keysOf at this
      rw [this]
      simp [h]
theorem keys_put {β : Type} (v w : Int) (b : β) (m : IM β) : v ∈ keysOf (putK w b m) ↔ v = w ∨ v ∈ keysOf m := by
  rw [← findK_keys, ← findK_keys, findK_put]
  by_cases h : v = w <;> simp [h]
def NN (b : IM Int) : Prop := ∀ u, 0 ≤ bget u b
theorem NN.up {b : IM Int} (h : NN b) (l : List Int) : NN (l.foldl (incr 1) b) := by
  intro u
  rw [bget_incrs]
  have := h u
  unfold cntI
  omega
theorem up_zero {b : IM Int} (h : NN b) (l : List Int) (v : Int) : bget v (l.foldl (incr 1) b) = 0 ↔ bget v b = 0 ∧ v ∉ l := by
  rw [bget_incrs]
  have h1 := h v
  have h2 : (l.count v : Int) = 0 ↔ v ∉ l := by
    rw [← List.count_eq_zero (a := v)]
    omega
  unfold cntI
  constructor
  · intro hx
    exact ⟨by omega, h2.1 (by omega)⟩
  · rintro ⟨a, c⟩
    have := h2.2 c
    omega
mutual
theorem free_mem (v : Int) : ∀ (t : CTree) (s : FS), NN s.1 → (v ∈ keysOf (freeF t s).2 ↔ v ∈ keysOf s.2 ∨ (FreeIn v t ∧ bget v s.1 = 0))
  | .mk op n binds kids alts, s, hn => by
    rw [freeF, FreeIn]
    have h1 : (freeHere op n s).1 = s.1 := by unfold freeHere; split <;> rfl
    rw [frees_mem v op binds alts kids 0 _ (by rw [h1]; exact hn), h1]
    unfold freeHere
    split
    · rename_i h
      rw [keys_put]
      constructor
      · rintro ((rfl | a) | a)
        · exact .inr ⟨.inl ⟨h.1, rfl⟩, h.2⟩
        · exact .inl a
        · exact .inr ⟨.inr a.1, a.2⟩
      · rintro (a | ⟨⟨_, rfl⟩ | a, c⟩)
        · exact .inl (.inr a)
        · exact .inl (.inl rfl)
        · exact .inr ⟨a, c⟩
    · rename_i h
      constructor
      · rintro (a | a)
        · exact .inl a
        · exact .inr ⟨.inr a.1, a.2⟩
      · rintro (a | ⟨⟨h0, rfl⟩ | a, c⟩)
        · exact .inl a
        · exact absurd ⟨h0, c⟩ h
        · exact .inr ⟨a, c⟩
theorem frees_mem (v op : Int) (binds : List Int) (alts : List CAlt) : ∀ (ks : List CTree) (k : Nat) (s : FS), NN s.1 → (v ∈ keysOf (freeKs op binds alts ks k s).2 ↔ v ∈ keysOf s.2 ∨ (FreeInKs v op binds alts ks k ∧ bget v s.1 = 0))
  | [], k, s, hn => by rw [freeKs, FreeInKs]; simp
  | kid :: ks, k, s, hn => by
    rw [freeKs, FreeInKs]
    have hup := hn.up (boundOf op binds alts k)
    have hb : ∀ u, bget u ((boundOf op binds alts k).foldl (incr (-1)) (freeF kid ((boundOf op binds alts k).foldl (incr 1) s.1, s.2)).1) = bget u s.1 := by
      intro u
      rw [bget_incrs, free_same, bget_incrs]
      omega
    rw [frees_mem v op binds alts ks (k + 1) _ (fun u => by rw [hb u]; exact hn u)]
    dsimp only
    rw [hb v, free_mem v kid _ hup]
    dsimp only
    rw [up_zero hn]
    constructor
    · rintro ((a | ⟨a, c, d⟩) | ⟨a, c⟩)
      · exact .inl a
      · exact .inr ⟨.inl ⟨a, d⟩, c⟩
      · exact .inr ⟨.inr a, c⟩
    · rintro (a | ⟨⟨a, d⟩ | a, c⟩)
      · exact .inl (.inl a)
      · exact .inl (.inr ⟨a, c, d⟩)
      · exact .inr ⟨a, c⟩
end
theorem freeOf_mem (t : CTree) (v : Int) : v ∈ freeOf t ↔ FreeIn v t := by
  unfold freeOf
  rw [(sortInts_perm _).mem_iff, free_mem v t ([], []) (fun u => by simp [bget, findK])]
  simp [keysOf, bget, findK]
end Go.Abs
