/-
  NARROWER THAN 'FOR EVERY INPUT', by the rows' own cells (each row's printed sentence says how): CoreOrdered: laid · CoreFreeUp: laid · CoreRenewed: laid · CoreCut: laid · PurityAbove: laid · FlowTrue: laid · FuseSelf: laid · FlowRenamed: laid.
  DERIVED. THE GIVEN ROWS OF THIS SEAT. 8 by the template 'for every input the law returns true; each argument reads behind the call as it read before'; 0 by the template 'total and deterministic' (their statements: YtciacognbcgfiaaDoorTotals.lean).
  GIVEN WITH THE SEED: the statements are not yours to turn. If you find one false, say at which input.
  Laid BY PROGRAM, IN A SANDBOX (cutbox-rows.mjs): the forced cells as the released guide's own fill.sh prints them over the translation 25420f4ae1f61ee5… (all of the seat's roots in one cut). By AI agents, Wed Nov 11 2026. No macro, syntax, notation, axiom, sorry.
-/
import Derived.Test.YtciacognbcgfiaaDoorChecked
import GoSem.Claim
import GoSem.ClaimJoined
import GoSem.ClaimMapViews
import Derived.JoinedTies
import Derived.KernelRfl
namespace Go.Proofs.YtciacognbcgfiaaDoor
/- THE CELL 'sum', in the pinned program and in every row, IS THE sha256 OF THE DUMP (.gsa) THAT YtciacognbcgfiaaDoorProg.lean LOADS. Nothing in Lean hashes anything: it is a label: what it is worth is what the hold of that sum in a sandbox is worth. -/
noncomputable def Tryd.pinned : Pinned := { name := "ytciacognbcgfiaadoor", sum := "25420f4ae1f61ee5826b272222e575b871cebd98782fa374c183bcb67eb8e594", checked := Tryd.checked }
namespace Rows
def none {H : Type} : Left H := { results := [], args := [] }

/- WHAT THE LISTED PACKAGE-LEVEL VARIABLES READ AS WHEN THE CALL BEGINS. Each datum BY PROGRAM (the guide's laid-datum.mjs) off the statement by which the dump's own 'gosem.cut.vars' lays the variable. In a bare row this is a premise. The card (YtciacognbcgfiaaDoorCards.lean) ties it to the program's text. -/
def laid_provenance_core_arity {H : Type} : DataW H := .agg [.lit (.int .i64 2), .lit (.int .i64 2), .lit (.int .i64 2), .lit (.int .i64 2), .lit (.int .i64 2), .lit (.int .i64 2), .lit (.int .i64 2), .lit (.int .i64 1), .lit (.int .i64 2), .lit (.int .i64 1), .lit (.int .i64 2), .lit (.int .i64 3)]
def laid_math_bits_deBruijn64tab {H : Type} : DataW H := .agg [.lit (.int .u8 0), .lit (.int .u8 1), .lit (.int .u8 56), .lit (.int .u8 2), .lit (.int .u8 57), .lit (.int .u8 49), .lit (.int .u8 28), .lit (.int .u8 3), .lit (.int .u8 61), .lit (.int .u8 58), .lit (.int .u8 42), .lit (.int .u8 50), .lit (.int .u8 38), .lit (.int .u8 29), .lit (.int .u8 17), .lit (.int .u8 4), .lit (.int .u8 62), .lit (.int .u8 47), .lit (.int .u8 59), .lit (.int .u8 36), .lit (.int .u8 45), .lit (.int .u8 43), .lit (.int .u8 51), .lit (.int .u8 22), .lit (.int .u8 53), .lit (.int .u8 39), .lit (.int .u8 33), .lit (.int .u8 30), .lit (.int .u8 24), .lit (.int .u8 18), .lit (.int .u8 12), .lit (.int .u8 5), .lit (.int .u8 63), .lit (.int .u8 55), .lit (.int .u8 48), .lit (.int .u8 27), .lit (.int .u8 60), .lit (.int .u8 41), .lit (.int .u8 37), .lit (.int .u8 16), .lit (.int .u8 46), .lit (.int .u8 35), .lit (.int .u8 44), .lit (.int .u8 21), .lit (.int .u8 52), .lit (.int .u8 32), .lit (.int .u8 23), .lit (.int .u8 11), .lit (.int .u8 54), .lit (.int .u8 26), .lit (.int .u8 40), .lit (.int .u8 15), .lit (.int .u8 34), .lit (.int .u8 20), .lit (.int .u8 31), .lit (.int .u8 10), .lit (.int .u8 25), .lit (.int .u8 14), .lit (.int .u8 19), .lit (.int .u8 9), .lit (.int .u8 13), .lit (.int .u8 8), .lit (.int .u8 7), .lit (.int .u8 6)]

/-- 'provenancekeep2.CoreOrdered': WHATEVER THE INPUT: true; the input reads as it did. -/
def coreOrderedSpec : ChangeSpec := { name := "coreOrdered", fn := fun _ => fun
  | [d] => { results := [.lit (.bool true)], args := [d] }
  | _ => none }
def coreOrderedRow : OpenClaim := { program := "ytciacognbcgfiaadoor", sum := "25420f4ae1f61ee5826b272222e575b871cebd98782fa374c183bcb67eb8e594", func := "provenance/provenancekeep2.CoreOrdered", spec := "coreOrdered", unfollowed := true, recurses := true, named := ["provenance/core.arity"], apart := false, laid := [("provenance/core.arity", laid_provenance_core_arity)] }
def CoreOrderedSaid : Prop := coreOrderedRow.holds Tryd.pinned (OpenSpec.ofChange coreOrderedSpec)

/-- ITS FALSE NEIGHBOUR: 'it returns false'. Refute it at one input. -/
def coreOrderedWrong : ChangeSpec := { name := "coreOrdered", fn := fun _ => fun
  | [d] => { results := [.lit (.bool false)], args := [d] }
  | _ => none }
def CoreOrderedWrongFalsely : Prop := coreOrderedRow.holds Tryd.pinned (OpenSpec.ofChange coreOrderedWrong)

/-- 'provenancekeep2.CoreFreeUp': WHATEVER THE INPUT: true; the input reads as it did. -/
def coreFreeUpSpec : ChangeSpec := { name := "coreFreeUp", fn := fun _ => fun
  | [d1, d2] => { results := [.lit (.bool true)], args := [d1, d2] }
  | _ => none }
def coreFreeUpRow : OpenClaim := { program := "ytciacognbcgfiaadoor", sum := "25420f4ae1f61ee5826b272222e575b871cebd98782fa374c183bcb67eb8e594", func := "provenance/provenancekeep2.CoreFreeUp", spec := "coreFreeUp", unfollowed := true, recurses := true, named := ["provenance/core.arity"], apart := false, laid := [("provenance/core.arity", laid_provenance_core_arity)] }
def CoreFreeUpSaid : Prop := coreFreeUpRow.holds Tryd.pinned (OpenSpec.ofChange coreFreeUpSpec)

/-- ITS FALSE NEIGHBOUR: 'it returns false'. Refute it at one input. -/
def coreFreeUpWrong : ChangeSpec := { name := "coreFreeUp", fn := fun _ => fun
  | [d1, d2] => { results := [.lit (.bool false)], args := [d1, d2] }
  | _ => none }
def CoreFreeUpWrongFalsely : Prop := coreFreeUpRow.holds Tryd.pinned (OpenSpec.ofChange coreFreeUpWrong)

/-- 'provenancekeep2.CoreRenewed': WHATEVER THE INPUT: true; the input reads as it did. -/
def coreRenewedSpec : ChangeSpec := { name := "coreRenewed", fn := fun _ => fun
  | [d1, d2] => { results := [.lit (.bool true)], args := [d1, d2] }
  | _ => none }
def coreRenewedRow : OpenClaim := { program := "ytciacognbcgfiaadoor", sum := "25420f4ae1f61ee5826b272222e575b871cebd98782fa374c183bcb67eb8e594", func := "provenance/provenancekeep2.CoreRenewed", spec := "coreRenewed", unfollowed := true, recurses := true, named := ["provenance/core.arity"], apart := false, laid := [("provenance/core.arity", laid_provenance_core_arity)] }
def CoreRenewedSaid : Prop := coreRenewedRow.holds Tryd.pinned (OpenSpec.ofChange coreRenewedSpec)

/-- ITS FALSE NEIGHBOUR: 'it returns false'. Refute it at one input. -/
def coreRenewedWrong : ChangeSpec := { name := "coreRenewed", fn := fun _ => fun
  | [d1, d2] => { results := [.lit (.bool false)], args := [d1, d2] }
  | _ => none }
def CoreRenewedWrongFalsely : Prop := coreRenewedRow.holds Tryd.pinned (OpenSpec.ofChange coreRenewedWrong)

/-- 'provenancekeep2.CoreCut': WHATEVER THE INPUT: true; the input reads as it did. -/
def coreCutSpec : ChangeSpec := { name := "coreCut", fn := fun _ => fun
  | [d1, d2] => { results := [.lit (.bool true)], args := [d1, d2] }
  | _ => none }
def coreCutRow : OpenClaim := { program := "ytciacognbcgfiaadoor", sum := "25420f4ae1f61ee5826b272222e575b871cebd98782fa374c183bcb67eb8e594", func := "provenance/provenancekeep2.CoreCut", spec := "coreCut", unfollowed := true, recurses := true, named := ["provenance/core.arity"], apart := false, laid := [("provenance/core.arity", laid_provenance_core_arity)] }
def CoreCutSaid : Prop := coreCutRow.holds Tryd.pinned (OpenSpec.ofChange coreCutSpec)

/-- ITS FALSE NEIGHBOUR: 'it returns false'. Refute it at one input. -/
def coreCutWrong : ChangeSpec := { name := "coreCut", fn := fun _ => fun
  | [d1, d2] => { results := [.lit (.bool false)], args := [d1, d2] }
  | _ => none }
def CoreCutWrongFalsely : Prop := coreCutRow.holds Tryd.pinned (OpenSpec.ofChange coreCutWrong)

/-- 'provenancekeep2.PurityAbove': WHATEVER THE INPUT: true; the input reads as it did. -/
def purityAboveSpec : ChangeSpec := { name := "purityAbove", fn := fun _ => fun
  | [d] => { results := [.lit (.bool true)], args := [d] }
  | _ => none }
def purityAboveRow : OpenClaim := { program := "ytciacognbcgfiaadoor", sum := "25420f4ae1f61ee5826b272222e575b871cebd98782fa374c183bcb67eb8e594", func := "provenance/provenancekeep2.PurityAbove", spec := "purityAbove", unfollowed := true, recurses := true, named := ["provenance/core.arity"], apart := false, laid := [("provenance/core.arity", laid_provenance_core_arity)] }
def PurityAboveSaid : Prop := purityAboveRow.holds Tryd.pinned (OpenSpec.ofChange purityAboveSpec)

/-- ITS FALSE NEIGHBOUR: 'it returns false'. Refute it at one input. -/
def purityAboveWrong : ChangeSpec := { name := "purityAbove", fn := fun _ => fun
  | [d] => { results := [.lit (.bool false)], args := [d] }
  | _ => none }
def PurityAboveWrongFalsely : Prop := purityAboveRow.holds Tryd.pinned (OpenSpec.ofChange purityAboveWrong)

/-- 'provenancekeep2.FlowTrue': WHATEVER THE INPUT: true; the input reads as it did. -/
def flowTrueSpec : ChangeSpec := { name := "flowTrue", fn := fun _ => fun
  | [d] => { results := [.lit (.bool true)], args := [d] }
  | _ => none }
def flowTrueRow : OpenClaim := { program := "ytciacognbcgfiaadoor", sum := "25420f4ae1f61ee5826b272222e575b871cebd98782fa374c183bcb67eb8e594", func := "provenance/provenancekeep2.FlowTrue", spec := "flowTrue", unfollowed := true, recurses := true, named := ["provenance/core.arity", "math/bits.deBruijn64tab"], apart := false, laid := [("math/bits.deBruijn64tab", laid_math_bits_deBruijn64tab), ("provenance/core.arity", laid_provenance_core_arity)] }
def FlowTrueSaid : Prop := flowTrueRow.holds Tryd.pinned (OpenSpec.ofChange flowTrueSpec)

/-- ITS FALSE NEIGHBOUR: 'it returns false'. Refute it at one input. -/
def flowTrueWrong : ChangeSpec := { name := "flowTrue", fn := fun _ => fun
  | [d] => { results := [.lit (.bool false)], args := [d] }
  | _ => none }
def FlowTrueWrongFalsely : Prop := flowTrueRow.holds Tryd.pinned (OpenSpec.ofChange flowTrueWrong)

/-- 'provenancekeep2.FuseSelf': WHATEVER THE INPUT: true; the input reads as it did. -/
def fuseSelfSpec : ChangeSpec := { name := "fuseSelf", fn := fun _ => fun
  | [d1, d2] => { results := [.lit (.bool true)], args := [d1, d2] }
  | _ => none }
def fuseSelfRow : OpenClaim := { program := "ytciacognbcgfiaadoor", sum := "25420f4ae1f61ee5826b272222e575b871cebd98782fa374c183bcb67eb8e594", func := "provenance/provenancekeep2.FuseSelf", spec := "fuseSelf", unfollowed := true, recurses := true, named := ["provenance/core.arity"], apart := false, laid := [("provenance/core.arity", laid_provenance_core_arity)] }
def FuseSelfSaid : Prop := fuseSelfRow.holds Tryd.pinned (OpenSpec.ofChange fuseSelfSpec)

/-- ITS FALSE NEIGHBOUR: 'it returns false'. Refute it at one input. -/
def fuseSelfWrong : ChangeSpec := { name := "fuseSelf", fn := fun _ => fun
  | [d1, d2] => { results := [.lit (.bool false)], args := [d1, d2] }
  | _ => none }
def FuseSelfWrongFalsely : Prop := fuseSelfRow.holds Tryd.pinned (OpenSpec.ofChange fuseSelfWrong)

/-- 'provenancekeep2.FlowRenamed': WHATEVER THE INPUT: true; the input reads as it did. -/
def flowRenamedSpec : ChangeSpec := { name := "flowRenamed", fn := fun _ => fun
  | [d1, d2] => { results := [.lit (.bool true)], args := [d1, d2] }
  | _ => none }
def flowRenamedRow : OpenClaim := { program := "ytciacognbcgfiaadoor", sum := "25420f4ae1f61ee5826b272222e575b871cebd98782fa374c183bcb67eb8e594", func := "provenance/provenancekeep2.FlowRenamed", spec := "flowRenamed", unfollowed := true, recurses := true, named := ["provenance/core.arity", "math/bits.deBruijn64tab"], apart := false, laid := [("math/bits.deBruijn64tab", laid_math_bits_deBruijn64tab), ("provenance/core.arity", laid_provenance_core_arity)] }
def FlowRenamedSaid : Prop := flowRenamedRow.holds Tryd.pinned (OpenSpec.ofChange flowRenamedSpec)

/-- ITS FALSE NEIGHBOUR: 'it returns false'. Refute it at one input. -/
def flowRenamedWrong : ChangeSpec := { name := "flowRenamed", fn := fun _ => fun
  | [d1, d2] => { results := [.lit (.bool false)], args := [d1, d2] }
  | _ => none }
def FlowRenamedWrongFalsely : Prop := flowRenamedRow.holds Tryd.pinned (OpenSpec.ofChange flowRenamedWrong)

/- THE SECOND FORM. 'bulk': how many values and letters a reading holds, each counted each time it is reached (what is shared counts as often as it is met; a slice's spare places count too). A statement '..UptoSaid' is the law's where the arguments, and the package variables that the reading takes, are together of bulk at most 1048576: NARROWER than '..Said'. Prove '..Said' where nothing that the law and all that it calls make is longer than what came in: it says more and counts as full. Else prove '..UptoSaid'. A law counts once. -/
mutual
def uptoBulk {H : Type} : DataW H → Nat
  | .lit (.string bytes) => bytes.length + 1
  | .lit _ => 1
  | .nil => 1
  | .ptr d => uptoBulk d + 1
  | .slice elems spare => uptoBulkAll elems + uptoBulkAll spare + 1
  | .agg parts => uptoBulkAll parts + 1
  | .iface _ d => uptoBulk d + 1
  | .map entries => uptoBulkEntries entries + 1
  | .held _ => 1
def uptoBulkAll {H : Type} : List (DataW H) → Nat
  | [] => 0
  | d :: r => uptoBulk d + uptoBulkAll r
def uptoBulkEntries {H : Type} : List (Lit × DataW H) → Nat
  | [] => 0
  | x :: r => uptoBulkEntry x + uptoBulkEntries r
def uptoBulkEntry {H : Type} : Lit × DataW H → Nat
  | (.string bytes, d) => bytes.length + uptoBulk d + 1
  | (_, d) => uptoBulk d + 1
 end
def uptoSmall : (H : Type) → List (DataW H) → Bool := fun _ ds => decide (uptoBulkAll ds ≤ 1048576)
def OpenSpec.upto (s : _root_.Go.ChangeSpec) : _root_.Go.OpenSpec := { _root_.Go.OpenSpec.ofChange s with cond := some uptoSmall }

/-- 'provenancekeep2.CoreOrdered', WHERE WHAT IT READS IS OF BULK AT MOST 1048576: true; the input reads as it did. -/
def coreOrderedUptoRow : OpenClaim := { program := "ytciacognbcgfiaadoor", sum := "25420f4ae1f61ee5826b272222e575b871cebd98782fa374c183bcb67eb8e594", func := "provenance/provenancekeep2.CoreOrdered", spec := "coreOrdered", unfollowed := true, recurses := true, named := ["provenance/core.arity"], apart := false, laid := [("provenance/core.arity", laid_provenance_core_arity)], narrowed := true }
def CoreOrderedUptoSaid : Prop := coreOrderedUptoRow.holds Tryd.pinned (OpenSpec.upto coreOrderedSpec)

/-- 'provenancekeep2.CoreFreeUp', WHERE WHAT IT READS IS OF BULK AT MOST 1048576: true; the input reads as it did. -/
def coreFreeUpUptoRow : OpenClaim := { program := "ytciacognbcgfiaadoor", sum := "25420f4ae1f61ee5826b272222e575b871cebd98782fa374c183bcb67eb8e594", func := "provenance/provenancekeep2.CoreFreeUp", spec := "coreFreeUp", unfollowed := true, recurses := true, named := ["provenance/core.arity"], apart := false, laid := [("provenance/core.arity", laid_provenance_core_arity)], narrowed := true }
def CoreFreeUpUptoSaid : Prop := coreFreeUpUptoRow.holds Tryd.pinned (OpenSpec.upto coreFreeUpSpec)

/-- 'provenancekeep2.CoreRenewed', WHERE WHAT IT READS IS OF BULK AT MOST 1048576: true; the input reads as it did. -/
def coreRenewedUptoRow : OpenClaim := { program := "ytciacognbcgfiaadoor", sum := "25420f4ae1f61ee5826b272222e575b871cebd98782fa374c183bcb67eb8e594", func := "provenance/provenancekeep2.CoreRenewed", spec := "coreRenewed", unfollowed := true, recurses := true, named := ["provenance/core.arity"], apart := false, laid := [("provenance/core.arity", laid_provenance_core_arity)], narrowed := true }
def CoreRenewedUptoSaid : Prop := coreRenewedUptoRow.holds Tryd.pinned (OpenSpec.upto coreRenewedSpec)

/-- 'provenancekeep2.CoreCut', WHERE WHAT IT READS IS OF BULK AT MOST 1048576: true; the input reads as it did. -/
def coreCutUptoRow : OpenClaim := { program := "ytciacognbcgfiaadoor", sum := "25420f4ae1f61ee5826b272222e575b871cebd98782fa374c183bcb67eb8e594", func := "provenance/provenancekeep2.CoreCut", spec := "coreCut", unfollowed := true, recurses := true, named := ["provenance/core.arity"], apart := false, laid := [("provenance/core.arity", laid_provenance_core_arity)], narrowed := true }
def CoreCutUptoSaid : Prop := coreCutUptoRow.holds Tryd.pinned (OpenSpec.upto coreCutSpec)

/-- 'provenancekeep2.PurityAbove', WHERE WHAT IT READS IS OF BULK AT MOST 1048576: true; the input reads as it did. -/
def purityAboveUptoRow : OpenClaim := { program := "ytciacognbcgfiaadoor", sum := "25420f4ae1f61ee5826b272222e575b871cebd98782fa374c183bcb67eb8e594", func := "provenance/provenancekeep2.PurityAbove", spec := "purityAbove", unfollowed := true, recurses := true, named := ["provenance/core.arity"], apart := false, laid := [("provenance/core.arity", laid_provenance_core_arity)], narrowed := true }
def PurityAboveUptoSaid : Prop := purityAboveUptoRow.holds Tryd.pinned (OpenSpec.upto purityAboveSpec)

/-- 'provenancekeep2.FlowTrue', WHERE WHAT IT READS IS OF BULK AT MOST 1048576: true; the input reads as it did. -/
def flowTrueUptoRow : OpenClaim := { program := "ytciacognbcgfiaadoor", sum := "25420f4ae1f61ee5826b272222e575b871cebd98782fa374c183bcb67eb8e594", func := "provenance/provenancekeep2.FlowTrue", spec := "flowTrue", unfollowed := true, recurses := true, named := ["provenance/core.arity", "math/bits.deBruijn64tab"], apart := false, laid := [("math/bits.deBruijn64tab", laid_math_bits_deBruijn64tab), ("provenance/core.arity", laid_provenance_core_arity)], narrowed := true }
def FlowTrueUptoSaid : Prop := flowTrueUptoRow.holds Tryd.pinned (OpenSpec.upto flowTrueSpec)

/-- 'provenancekeep2.FuseSelf', WHERE WHAT IT READS IS OF BULK AT MOST 1048576: true; the input reads as it did. -/
def fuseSelfUptoRow : OpenClaim := { program := "ytciacognbcgfiaadoor", sum := "25420f4ae1f61ee5826b272222e575b871cebd98782fa374c183bcb67eb8e594", func := "provenance/provenancekeep2.FuseSelf", spec := "fuseSelf", unfollowed := true, recurses := true, named := ["provenance/core.arity"], apart := false, laid := [("provenance/core.arity", laid_provenance_core_arity)], narrowed := true }
def FuseSelfUptoSaid : Prop := fuseSelfUptoRow.holds Tryd.pinned (OpenSpec.upto fuseSelfSpec)

/-- 'provenancekeep2.FlowRenamed', WHERE WHAT IT READS IS OF BULK AT MOST 1048576: true; the input reads as it did. -/
def flowRenamedUptoRow : OpenClaim := { program := "ytciacognbcgfiaadoor", sum := "25420f4ae1f61ee5826b272222e575b871cebd98782fa374c183bcb67eb8e594", func := "provenance/provenancekeep2.FlowRenamed", spec := "flowRenamed", unfollowed := true, recurses := true, named := ["provenance/core.arity", "math/bits.deBruijn64tab"], apart := false, laid := [("math/bits.deBruijn64tab", laid_math_bits_deBruijn64tab), ("provenance/core.arity", laid_provenance_core_arity)], narrowed := true }
def FlowRenamedUptoSaid : Prop := flowRenamedUptoRow.holds Tryd.pinned (OpenSpec.upto flowRenamedSpec)

end Rows
end Go.Proofs.YtciacognbcgfiaaDoor
