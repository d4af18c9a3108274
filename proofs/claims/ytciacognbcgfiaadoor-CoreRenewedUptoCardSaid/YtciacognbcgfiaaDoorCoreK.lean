/-
  The tree of a list. Conditions: none.
-/
import Derived.Test.YtciacognbcgfiaaDoorCoreJ
set_option linter.unusedVariables false
set_option linter.unusedSimpArgs false
set_option maxRecDepth 100000
set_option maxHeartbeats 4000000
namespace Go.Abs
/-- What is known of the copy of a slice of numbers and of sorting one. -/
structure CPrims (L : Lib) (sortI : List Int → List Int) : Prop where
  clone : ∀ (l : List Int) (h : Heap), l.length < 2 ^ 30 → pcall L 188 [.list (l.map encI) none] h = some (.val (.list (l.map encI) none), h)
  sort : ∀ (l : List Int), l ≠ [] → l.length < 2 ^ 30 → call L 138 [.vec 0 l.length] [.vec (l.map encI) 1] = some (.val (.tuple []), [.vec ((sortI l).map encI) 1])
  sort0 : ∀ h : Heap, pcall L 138 [.list [] none] h = some (.val (.tuple []), h)
def CTree.none : CTree := .mk 0 0 [] [] []
def growStep (ts : List CTree) (x : CExpr) : List CTree := ts ++ [.mk x.op x.n x.binds (x.kids.map fun k => ts.getD k.toNat .none) x.alts]
def growAll (e : List CExpr) : List CTree := e.foldl growStep []
def grow1 (e : List CExpr) : CTree := (growAll e).getD (e.length - 1) .none
/-- Each kid is a node ahead. -/
def Ahead (e : List CExpr) : Prop := ∀ (i : Nat) (hi : i < e.length), ∀ k ∈ e[i].kids, 0 ≤ k ∧ k < i
theorem wipeR_vptr (cs : List AVal) (n : Nat) : wipeR (.vptr cs n) = .vptr cs n := rfl
theorem enc_vptr (t : CTree) : ∃ tc, encTree t = .vptr tc 0 ∧ isDataL tc = true := by
  have h := data_Tree t
  cases t
  rw [encTree_eq] at h ⊢
  exact ⟨_, rfl, h⟩
section
variable {L : Lib} (hL : Plain L)
def xbox (x : CExpr) : AObj := .box [.int .i64 x.op, .int .i64 x.n, .list (x.binds.map encI) none, .list (x.kids.map encI) none, .list (x.alts.map encAlt) none]
include hL
end
section
theorem growAll_succ (e : List CExpr) (i : Nat) (hi : i < e.length) : growAll (e.take (i + 1)) = growStep (growAll (e.take i)) e[i] := by
  unfold growAll
  rw [List.take_succ_eq_append_getElem hi, List.foldl_append]
  rfl
theorem growAll_length : ∀ (e : List CExpr) (ts : List CTree), (e.foldl growStep ts).length = ts.length + e.length
  | [], ts => rfl
  | x :: e, ts => by
    rw [List.foldl_cons, growAll_length e]
    simp [growStep]
    omega
theorem growAll_len (e : List CExpr) : (growAll e).length = e.length := by
  unfold growAll
  rw [growAll_length]
  simp
theorem growTake_len (e : List CExpr) (i : Nat) (hi : i ≤ e.length) : (growAll (e.take i)).length = i := by
  rw [growAll_len]
  simp
  omega
variable {L : Lib} (hL : Plain L)
include hL
end
end Go.Abs
