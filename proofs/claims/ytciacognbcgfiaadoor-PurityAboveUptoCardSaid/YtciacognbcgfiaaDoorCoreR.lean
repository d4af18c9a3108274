/-
  The list of a tree: the walk. Conditions: none.
-/
import Derived.Test.YtciacognbcgfiaaDoorCoreQ
import Derived.Test.YtciacognbcgfiaaDoorC
set_option linter.unusedVariables false
set_option linter.unusedSimpArgs false
set_option maxRecDepth 100000
set_option maxHeartbeats 4000000
namespace Go.Abs
theorem tsizes_append : ∀ (a b : List CTree), tsizes (a ++ b) = tsizes a + tsizes b
  | [], b => by rw [List.nil_append, tsizes]; omega
  | x :: a, b => by rw [List.cons_append, tsizes, tsizes, tsizes_append a b]; omega
theorem listTs_snoc : ∀ (ks : List CTree) (k : CTree) (b : Nat), listTs (ks ++ [k]) b = listTs ks b ++ listT k (b + tsizes ks)
  | [], k, b => by rw [List.nil_append, listTs, listTs, listTs, tsizes, List.append_nil]; rfl
  | x :: ks, k, b => by
    rw [List.cons_append, listTs, listTs, listTs_snoc ks k, tsizes, List.append_assoc, Nat.add_assoc]
theorem rootsTs_snoc : ∀ (ks : List CTree) (k : CTree) (b : Nat), rootsTs (ks ++ [k]) b = rootsTs ks b ++ [((b + tsizes ks + tsize k - 1 : Nat) : Int)]
  | [], k, b => by rw [List.nil_append, rootsTs, rootsTs, rootsTs, tsizes]; rfl
  | x :: ks, k, b => by
    rw [List.cons_append, rootsTs, rootsTs, rootsTs_snoc ks k, tsizes]
    rw [show b + tsize x + tsizes ks + tsize k - 1 = b + (tsize x + tsizes ks) + tsize k - 1 by omega]
    rfl
theorem rootsTs_len : ∀ (ks : List CTree) (b : Nat), (rootsTs ks b).length = ks.length
  | [], b => rfl
  | k :: ks, b => by rw [rootsTs, List.length_cons, rootsTs_len ks]; rfl
theorem tsizes_take (ks : List CTree) (j : Nat) (hj : j < ks.length) : tsizes (ks.take (j + 1)) = tsizes (ks.take j) + tsize ks[j] := by
  rw [List.take_succ_eq_append_getElem hj, tsizes_append, tsizes, tsizes]
  omega
theorem tsizes_le (ks : List CTree) (j : Nat) : tsizes (ks.take j) ≤ tsizes ks := by
  conv => rhs; rw [← List.take_append_drop j ks, tsizes_append]
  omega
section
variable {L : Lib} (hL : Plain L)
include hL
/-- The heap where the list was empty: as soon as a kid is laid, both lists have room. -/
def hB (op n : Int) (binds : List Int) (outs : List CExpr) (ids : List Int) (j : Nat) : Heap :=
  if j = 0 then [.box [.func 187 [] [.ptr (some (0, 0)), .ptr (some (1, 0))]], .box [.list [] (some none)], .box [.int .i64 op, .int .i64 n, .list (binds.map encI) none, .list [] (some none), .list [] (some none)]]
  else [.box [.func 187 [] [.ptr (some (0, 0)), .ptr (some (1, 0))]], .box [.list (outs.map encExpr) (some (some 3))], .box [.int .i64 op, .int .i64 n, .list (binds.map encI) none, .list (ids.map encI) (some (some 4)), .list [] (some none)], .tail outs.length 5, .tail j 1]
end
end Go.Abs
