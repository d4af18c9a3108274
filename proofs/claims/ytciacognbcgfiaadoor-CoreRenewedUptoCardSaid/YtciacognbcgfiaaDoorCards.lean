/-
  DERIVED. GIVEN WITH THE SEED: THE CARDS: each row of YtciacognbcgfiaaDoorRows.lean that lists a variable, with what it lists TIED to the program's text (the seventh form; the later family's looks); each row that meets fmt, with fmt's text TOLD by the authors' own Lean function (tested against real Go, not proved from fmt's source: count such statements apart). THE CARD IS WHAT COUNTS. Prove the row's statement (the work); the ties are given (YtciacognbcgfiaaDoorTie.lean); close each card by the builder's one call (the guide's Derived/Test/ToyasCard.lean, 'card_holds'). Laid BY PROGRAM, IN A SANDBOX (cutbox-door.mjs). By AI agents, Wed Nov 11 2026. No macro, syntax, notation, axiom, sorry.
-/
import Derived.Test.YtciacognbcgfiaaDoorRows
import GoSem.ClaimSeven
namespace Go.Proofs.YtciacognbcgfiaaDoor
namespace Rows

/-- THE TIED CARD OF 'provenancekeep2.CoreOrdered'. -/
def coreOrderedCard : Claim7 := { stood := { row := coreOrderedRow, standIns := [], harness := (true, "71c6ac24bc3eb23c6080ac23eca1078b0eb2ebae00d652aeac0ccdac75e79d0a"), looks := true }, kinds := [], alts := [], laidByText := true, laidKinds := [.data], laidTests := true, laidLooks := .later }
def CoreOrderedCardSaid : Prop := Claim7.holds Tryd.pinned (.plain (OpenSpec.ofChange coreOrderedSpec)) coreOrderedCard

/-- THE TIED CARD OF 'provenancekeep2.CoreFreeUp'. -/
def coreFreeUpCard : Claim7 := { stood := { row := coreFreeUpRow, standIns := [], harness := (true, "71c6ac24bc3eb23c6080ac23eca1078b0eb2ebae00d652aeac0ccdac75e79d0a"), looks := true }, kinds := [], alts := [], laidByText := true, laidKinds := [.data], laidTests := true, laidLooks := .later }
def CoreFreeUpCardSaid : Prop := Claim7.holds Tryd.pinned (.plain (OpenSpec.ofChange coreFreeUpSpec)) coreFreeUpCard

/-- THE TIED CARD OF 'provenancekeep2.CoreRenewed'. -/
def coreRenewedCard : Claim7 := { stood := { row := coreRenewedRow, standIns := [], harness := (true, "71c6ac24bc3eb23c6080ac23eca1078b0eb2ebae00d652aeac0ccdac75e79d0a"), looks := true }, kinds := [], alts := [], laidByText := true, laidKinds := [.data], laidTests := true, laidLooks := .later }
def CoreRenewedCardSaid : Prop := Claim7.holds Tryd.pinned (.plain (OpenSpec.ofChange coreRenewedSpec)) coreRenewedCard

/-- THE TIED CARD OF 'provenancekeep2.CoreCut'. -/
def coreCutCard : Claim7 := { stood := { row := coreCutRow, standIns := [], harness := (true, "71c6ac24bc3eb23c6080ac23eca1078b0eb2ebae00d652aeac0ccdac75e79d0a"), looks := true }, kinds := [], alts := [], laidByText := true, laidKinds := [.data], laidTests := true, laidLooks := .later }
def CoreCutCardSaid : Prop := Claim7.holds Tryd.pinned (.plain (OpenSpec.ofChange coreCutSpec)) coreCutCard

/-- THE TIED CARD OF 'provenancekeep2.PurityAbove'. -/
def purityAboveCard : Claim7 := { stood := { row := purityAboveRow, standIns := [], harness := (true, "71c6ac24bc3eb23c6080ac23eca1078b0eb2ebae00d652aeac0ccdac75e79d0a"), looks := true }, kinds := [], alts := [], laidByText := true, laidKinds := [.data], laidTests := true, laidLooks := .later }
def PurityAboveCardSaid : Prop := Claim7.holds Tryd.pinned (.plain (OpenSpec.ofChange purityAboveSpec)) purityAboveCard

/-- THE TIED CARD OF 'provenancekeep2.FlowTrue'. -/
def flowTrueCard : Claim7 := { stood := { row := flowTrueRow, standIns := [], harness := (true, "71c6ac24bc3eb23c6080ac23eca1078b0eb2ebae00d652aeac0ccdac75e79d0a"), looks := true }, kinds := [], alts := [], laidByText := true, laidKinds := [.data, .data], laidTests := true, laidLooks := .later }
def FlowTrueCardSaid : Prop := Claim7.holds Tryd.pinned (.plain (OpenSpec.ofChange flowTrueSpec)) flowTrueCard

/-- THE TIED CARD OF 'provenancekeep2.FuseSelf'. -/
def fuseSelfCard : Claim7 := { stood := { row := fuseSelfRow, standIns := [], harness := (true, "71c6ac24bc3eb23c6080ac23eca1078b0eb2ebae00d652aeac0ccdac75e79d0a"), looks := true }, kinds := [], alts := [], laidByText := true, laidKinds := [.data], laidTests := true, laidLooks := .later }
def FuseSelfCardSaid : Prop := Claim7.holds Tryd.pinned (.plain (OpenSpec.ofChange fuseSelfSpec)) fuseSelfCard

/-- THE TIED CARD OF 'provenancekeep2.FlowRenamed'. -/
def flowRenamedCard : Claim7 := { stood := { row := flowRenamedRow, standIns := [], harness := (true, "71c6ac24bc3eb23c6080ac23eca1078b0eb2ebae00d652aeac0ccdac75e79d0a"), looks := true }, kinds := [], alts := [], laidByText := true, laidKinds := [.data, .data], laidTests := true, laidLooks := .later }
def FlowRenamedCardSaid : Prop := Claim7.holds Tryd.pinned (.plain (OpenSpec.ofChange flowRenamedSpec)) flowRenamedCard

/-- THE SECOND FORM's CARD OF 'provenancekeep2.CoreOrdered'. -/
def coreOrderedUptoCard : Claim7 := { stood := { row := coreOrderedUptoRow, standIns := [], harness := (true, "71c6ac24bc3eb23c6080ac23eca1078b0eb2ebae00d652aeac0ccdac75e79d0a"), looks := true }, kinds := [], alts := [], laidByText := true, laidKinds := [.data], laidTests := true, laidLooks := .later }
def CoreOrderedUptoCardSaid : Prop := Claim7.holds Tryd.pinned (.plain (OpenSpec.upto coreOrderedSpec)) coreOrderedUptoCard

/-- THE SECOND FORM's CARD OF 'provenancekeep2.CoreFreeUp'. -/
def coreFreeUpUptoCard : Claim7 := { stood := { row := coreFreeUpUptoRow, standIns := [], harness := (true, "71c6ac24bc3eb23c6080ac23eca1078b0eb2ebae00d652aeac0ccdac75e79d0a"), looks := true }, kinds := [], alts := [], laidByText := true, laidKinds := [.data], laidTests := true, laidLooks := .later }
def CoreFreeUpUptoCardSaid : Prop := Claim7.holds Tryd.pinned (.plain (OpenSpec.upto coreFreeUpSpec)) coreFreeUpUptoCard

/-- THE SECOND FORM's CARD OF 'provenancekeep2.CoreRenewed'. -/
def coreRenewedUptoCard : Claim7 := { stood := { row := coreRenewedUptoRow, standIns := [], harness := (true, "71c6ac24bc3eb23c6080ac23eca1078b0eb2ebae00d652aeac0ccdac75e79d0a"), looks := true }, kinds := [], alts := [], laidByText := true, laidKinds := [.data], laidTests := true, laidLooks := .later }
def CoreRenewedUptoCardSaid : Prop := Claim7.holds Tryd.pinned (.plain (OpenSpec.upto coreRenewedSpec)) coreRenewedUptoCard

/-- THE SECOND FORM's CARD OF 'provenancekeep2.CoreCut'. -/
def coreCutUptoCard : Claim7 := { stood := { row := coreCutUptoRow, standIns := [], harness := (true, "71c6ac24bc3eb23c6080ac23eca1078b0eb2ebae00d652aeac0ccdac75e79d0a"), looks := true }, kinds := [], alts := [], laidByText := true, laidKinds := [.data], laidTests := true, laidLooks := .later }
def CoreCutUptoCardSaid : Prop := Claim7.holds Tryd.pinned (.plain (OpenSpec.upto coreCutSpec)) coreCutUptoCard

/-- THE SECOND FORM's CARD OF 'provenancekeep2.PurityAbove'. -/
def purityAboveUptoCard : Claim7 := { stood := { row := purityAboveUptoRow, standIns := [], harness := (true, "71c6ac24bc3eb23c6080ac23eca1078b0eb2ebae00d652aeac0ccdac75e79d0a"), looks := true }, kinds := [], alts := [], laidByText := true, laidKinds := [.data], laidTests := true, laidLooks := .later }
def PurityAboveUptoCardSaid : Prop := Claim7.holds Tryd.pinned (.plain (OpenSpec.upto purityAboveSpec)) purityAboveUptoCard

/-- THE SECOND FORM's CARD OF 'provenancekeep2.FlowTrue'. -/
def flowTrueUptoCard : Claim7 := { stood := { row := flowTrueUptoRow, standIns := [], harness := (true, "71c6ac24bc3eb23c6080ac23eca1078b0eb2ebae00d652aeac0ccdac75e79d0a"), looks := true }, kinds := [], alts := [], laidByText := true, laidKinds := [.data, .data], laidTests := true, laidLooks := .later }
def FlowTrueUptoCardSaid : Prop := Claim7.holds Tryd.pinned (.plain (OpenSpec.upto flowTrueSpec)) flowTrueUptoCard

/-- THE SECOND FORM's CARD OF 'provenancekeep2.FuseSelf'. -/
def fuseSelfUptoCard : Claim7 := { stood := { row := fuseSelfUptoRow, standIns := [], harness := (true, "71c6ac24bc3eb23c6080ac23eca1078b0eb2ebae00d652aeac0ccdac75e79d0a"), looks := true }, kinds := [], alts := [], laidByText := true, laidKinds := [.data], laidTests := true, laidLooks := .later }
def FuseSelfUptoCardSaid : Prop := Claim7.holds Tryd.pinned (.plain (OpenSpec.upto fuseSelfSpec)) fuseSelfUptoCard

/-- THE SECOND FORM's CARD OF 'provenancekeep2.FlowRenamed'. -/
def flowRenamedUptoCard : Claim7 := { stood := { row := flowRenamedUptoRow, standIns := [], harness := (true, "71c6ac24bc3eb23c6080ac23eca1078b0eb2ebae00d652aeac0ccdac75e79d0a"), looks := true }, kinds := [], alts := [], laidByText := true, laidKinds := [.data, .data], laidTests := true, laidLooks := .later }
def FlowRenamedUptoCardSaid : Prop := Claim7.holds Tryd.pinned (.plain (OpenSpec.upto flowRenamedSpec)) flowRenamedUptoCard
end Rows
end Go.Proofs.YtciacognbcgfiaaDoor
