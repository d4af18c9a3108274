/-
  PARTS OF A PROOF, joined: an abstract machine for quiet code, its evaluation, and what the seat's functions answer on it. Conditions: none.
-/
import Derived.Test.YtbmognfolkhkpaaDoorHI
import Derived.Test.YtbmognfolkhkpaaDoorHA
set_option linter.unusedVariables false
set_option linter.unusedSimpArgs false
set_option maxRecDepth 100000
namespace Go.Abs
end Go.Abs
set_option linter.unusedVariables false
set_option linter.unusedSimpArgs false
set_option maxRecDepth 100000
namespace Go.Abs
theorem qvW {l : Lab} (h : qc2 false l = 0) : qpX l = 0 := by
 unfold qc2 at h
 split at h
 ·cases h
 ·exact h
theorem qp7 {l : Lab} (h : qc2 false l = 0) : qbL l.op l.n l.binds.length l.kops.length l.alts = true ∧ qdD l.op l.n l.binds l.kops.length l.alts = 0 := by
 have he := qvW h
 unfold qpX at he
 split at he
 ·cases he
 ·rename_i h1
  split at he
  ·rename_i h2; exact absurd he h2
  ·rename_i h2
   exact ⟨by simpa using h1,Classical.not_not.1 h2⟩
end Go.Abs
