/-
  PARTS OF A PROOF, joined: an abstract machine for quiet code, its evaluation, and what the seat's functions answer on it. Conditions: none.
-/
import Derived.Test.YtjbgooldkkbdmaaDoorCQ
set_option linter.unusedVariables false
set_option linter.unusedSimpArgs false
set_option maxRecDepth 100000
set_option maxHeartbeats 4000000
namespace Go.Abs
section
end
section
end
section
def qva (l l':List Int) (m:IM Int):IM Int:=(l.zip l').foldl (fun m p=>qhi p.1 p.2 m) m
end
section
end
end Go.Abs
