/-
  Order, Same, SameList, and the fixed example: the walk. Conditions: none.
-/
import Derived.Test.YtciacognbcgfiaaDoorCoreU
set_option linter.unusedVariables false
set_option linter.unusedSimpArgs false
set_option maxRecDepth 100000
set_option maxHeartbeats 4000000
namespace Go.Abs
structure CLib2 (L : Lib) : Prop extends CLib L where
  f130 : L.fns 130 = some fn130
  f131 : L.fns 131 = some fn131
  f132 : L.fns 132 = some fn132
  f133 : L.fns 133 = some fn133
  f139 : L.fns 139 = some fn139
  f154 : L.fns 154 = some fn154
  f159 : L.fns 159 = some fn159
  f161 : L.fns 161 = some fn161
  f162 : L.fns 162 = some fn162
  f163 : L.fns 163 = some fn163
  f164 : L.fns 164 = some fn164
  f177 : L.fns 177 = some fn177
  f183 : L.fns 183 = some fn183
  f187 : L.fns 187 = some fn187
  f189 : L.fns 189 = some fn189
/-! ### A tree equals itself -/
def IdMap (m : IM Int) : Prop := ∀ v w, findK v m = some w → w = v
theorem IdMap.put {m : IM Int} (h : IdMap m) (v : Int) : IdMap (putK v v m) := by
  intro x w hx
  rw [findK_put] at hx
  split at hx
  · injection hx with hx
    omega
  · exact h x w hx
theorem IdMap.zip : ∀ (l : List Int) {m : IM Int}, IdMap m → IdMap (putZip l l m)
  | [], m, h => h
  | x :: l, m, h => IdMap.zip l (h.put x)
/-! ### What a valid expression is -/
theorem check_tree {e : List CExpr} (h : checkErr e = 0) : TreeL e ∧ e.length ≤ 4096 ∧ hgt (grow1 e) ≤ 400 ∧ (∀ x ∈ e, labErr false (labX e x) = 0) ∧ (e.flatMap bindersX).Nodup ∧ freeOf (grow1 e) = [] := by
  unfold checkErr bodyErr at h
  by_cases h1 : treeErr e = 0
  · rw [if_neg (fun hx => hx h1)] at h
    obtain ⟨a, b, c⟩ := (treeErr_zero e).1 h1
    by_cases h2 : firstErr (e.map fun x => labErr false (labX e x)) = 0
    · rw [if_neg (fun hx => hx h2)] at h
      rw [twice_nodup] at h
      by_cases h3 : (e.flatMap bindersX).Nodup
      · simp only [h3, decide_true, Bool.not_true, Bool.false_eq_true, if_false] at h
        refine ⟨a, b, c, (firstErr_zero _ e).1 h2, h3, ?_⟩
        cases hf : freeOf (grow1 e) with
        | nil => rfl
        | cons n l => rw [hf] at h; simp [inI'] at h
      · simp only [h3, decide_false, Bool.not_false, if_true] at h
        cases h
    · rw [if_pos h2] at h
      exact absurd h h2
  · rw [if_pos h1] at h
    exact absurd h h1
section
variable {L : Lib} (hC : CLib2 L)
include hC
end
section
variable {L : Lib} (hC : CLib2 L)
include hC
end
end Go.Abs
