/-
  PARTS OF A PROOF, joined: an abstract machine for quiet code, its evaluation, and what the seat's functions answer on it. Conditions: none.
-/
import Derived.Test.YtbmognfolkhkpaaDoorHI
import Derived.Test.YtbmognfolkhkpaaDoorHA
set_option linter.unusedVariables false
set_option linter.unusedSimpArgs false
set_option maxRecDepth 100000
namespace Go.Abs
end Go.Abs
set_option linter.unusedVariables false
set_option linter.unusedSimpArgs false
set_option maxRecDepth 100000
namespace Go.Abs
theorem qwt {l:Lab} (h:qdk false l=0):qqy l=0:=by
 unfold qdk at h
 split at h
 ·cases h
 ·exact h
theorem qqI {l:Lab} (h:qdk false l=0):qb1 l.op l.n l.binds.length l.kops.length l.alts=true∧qd0 l.op l.n l.binds l.kops.length l.alts=0:=by
 have he:=qwt h
 unfold qqy at he
 split at he
 ·cases he
 ·rename_i h1
  split at he
  ·rename_i h2;exact absurd he h2
  ·rename_i h2
   exact⟨by simpa using h1,Classical.not_not.1 h2⟩
end Go.Abs
