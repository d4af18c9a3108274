/-
  DERIVED. GIVEN WITH THE SEED: THE CARDS: each row of YtbmognfolkhkpaaDoorRows.lean that lists a variable, with what it lists TIED to the program's text (the seventh form; the later family's looks); each row that meets fmt, with fmt's text TOLD by the authors' own Lean function (tested against real Go, not proved from fmt's source: count such statements apart). THE CARD IS WHAT COUNTS. Prove the row's statement (the work); the ties are given (YtbmognfolkhkpaaDoorTie.lean); close each card by the builder's one call (the guide's Derived/Test/ToyasCard.lean, 'card_holds'). Laid BY PROGRAM, IN A SANDBOX (cutbox-door.mjs). By AI agents, Wed Nov 11 2026. No macro, syntax, notation, axiom, sorry.
-/
import Derived.Test.YtbmognfolkhkpaaDoorRows
import GoSem.ClaimSeven
namespace Go.Proofs.YtbmognfolkhkpaaDoor
namespace Rows

/-- THE TIED CARD OF 'provenancekeep2.UsageNever'. -/
def usageNeverCard : Claim7 := { stood := { row := usageNeverRow, standIns := [], harness := (true, "6e8b2092c34fd0929fa6cd7f15e00102a060f62040e1ea67a8d5f0c57e268f54"), looks := false }, kinds := [], alts := [], laidByText := true, laidKinds := [.data], laidTests := true, laidLooks := .later }
def UsageNeverCardSaid : Prop := Claim7.holds Tryd.pinned (.plain (OpenSpec.ofChange usageNeverSpec)) usageNeverCard

/-- THE TIED CARD OF 'provenancekeep2.UsageRenamed'. -/
def usageRenamedCard : Claim7 := { stood := { row := usageRenamedRow, standIns := [], harness := (true, "6e8b2092c34fd0929fa6cd7f15e00102a060f62040e1ea67a8d5f0c57e268f54"), looks := false }, kinds := [], alts := [], laidByText := true, laidKinds := [.data], laidTests := true, laidLooks := .later }
def UsageRenamedCardSaid : Prop := Claim7.holds Tryd.pinned (.plain (OpenSpec.ofChange usageRenamedSpec)) usageRenamedCard

/-- THE TIED CARD OF 'provenancekeep2.ReplayRenamed'. -/
def replayRenamedCard : Claim7 := { stood := { row := replayRenamedRow, standIns := [], harness := (true, "6e8b2092c34fd0929fa6cd7f15e00102a060f62040e1ea67a8d5f0c57e268f54"), looks := false }, kinds := [], alts := [], laidByText := true, laidKinds := [.data], laidTests := true, laidLooks := .later }
def ReplayRenamedCardSaid : Prop := Claim7.holds Tryd.pinned (.plain (OpenSpec.ofChange replayRenamedSpec)) replayRenamedCard

/-- THE TIED CARD OF 'provenancekeep2.RewriteNone'. -/
def rewriteNoneCard : Claim7 := { stood := { row := rewriteNoneRow, standIns := [], harness := (true, "6e8b2092c34fd0929fa6cd7f15e00102a060f62040e1ea67a8d5f0c57e268f54"), looks := false }, kinds := [], alts := [], laidByText := true, laidKinds := [.data], laidTests := true, laidLooks := .later }
def RewriteNoneCardSaid : Prop := Claim7.holds Tryd.pinned (.plain (OpenSpec.ofChange rewriteNoneSpec)) rewriteNoneCard

/-- THE TIED CARD OF 'provenancekeep2.RewriteAdded'. -/
def rewriteAddedCard : Claim7 := { stood := { row := rewriteAddedRow, standIns := [], harness := (true, "6e8b2092c34fd0929fa6cd7f15e00102a060f62040e1ea67a8d5f0c57e268f54"), looks := false }, kinds := [], alts := [], laidByText := true, laidKinds := [.data], laidTests := true, laidLooks := .later }
def RewriteAddedCardSaid : Prop := Claim7.holds Tryd.pinned (.plain (OpenSpec.ofChange rewriteAddedSpec)) rewriteAddedCard

/-- THE TIED CARD OF 'provenancekeep2.PurityDrops'. -/
def purityDropsCard : Claim7 := { stood := { row := purityDropsRow, standIns := [], harness := (true, "6e8b2092c34fd0929fa6cd7f15e00102a060f62040e1ea67a8d5f0c57e268f54"), looks := false }, kinds := [], alts := [], laidByText := true, laidKinds := [.data], laidTests := true, laidLooks := .later }
def PurityDropsCardSaid : Prop := Claim7.holds Tryd.pinned (.plain (OpenSpec.ofChange purityDropsSpec)) purityDropsCard

/-- THE TIED CARD OF 'provenancekeep2.FuseSelf'. -/
def fuseSelfCard : Claim7 := { stood := { row := fuseSelfRow, standIns := [], harness := (true, "6e8b2092c34fd0929fa6cd7f15e00102a060f62040e1ea67a8d5f0c57e268f54"), looks := false }, kinds := [], alts := [], laidByText := true, laidKinds := [.data], laidTests := true, laidLooks := .later }
def FuseSelfCardSaid : Prop := Claim7.holds Tryd.pinned (.plain (OpenSpec.ofChange fuseSelfSpec)) fuseSelfCard

/-- THE TIED CARD OF 'provenancekeep2.FuseStops'. -/
def fuseStopsCard : Claim7 := { stood := { row := fuseStopsRow, standIns := [], harness := (true, "6e8b2092c34fd0929fa6cd7f15e00102a060f62040e1ea67a8d5f0c57e268f54"), looks := false }, kinds := [], alts := [], laidByText := true, laidKinds := [.data], laidTests := true, laidLooks := .later }
def FuseStopsCardSaid : Prop := Claim7.holds Tryd.pinned (.plain (OpenSpec.ofChange fuseStopsSpec)) fuseStopsCard

/-- THE SECOND FORM's CARD OF 'provenancekeep2.UsageNever'. -/
def usageNeverUptoCard : Claim7 := { stood := { row := usageNeverUptoRow, standIns := [], harness := (true, "6e8b2092c34fd0929fa6cd7f15e00102a060f62040e1ea67a8d5f0c57e268f54"), looks := false }, kinds := [], alts := [], laidByText := true, laidKinds := [.data], laidTests := true, laidLooks := .later }
def UsageNeverUptoCardSaid : Prop := Claim7.holds Tryd.pinned (.plain (OpenSpec.upto usageNeverSpec)) usageNeverUptoCard

/-- THE SECOND FORM's CARD OF 'provenancekeep2.UsageRenamed'. -/
def usageRenamedUptoCard : Claim7 := { stood := { row := usageRenamedUptoRow, standIns := [], harness := (true, "6e8b2092c34fd0929fa6cd7f15e00102a060f62040e1ea67a8d5f0c57e268f54"), looks := false }, kinds := [], alts := [], laidByText := true, laidKinds := [.data], laidTests := true, laidLooks := .later }
def UsageRenamedUptoCardSaid : Prop := Claim7.holds Tryd.pinned (.plain (OpenSpec.upto usageRenamedSpec)) usageRenamedUptoCard

/-- THE SECOND FORM's CARD OF 'provenancekeep2.ReplayRenamed'. -/
def replayRenamedUptoCard : Claim7 := { stood := { row := replayRenamedUptoRow, standIns := [], harness := (true, "6e8b2092c34fd0929fa6cd7f15e00102a060f62040e1ea67a8d5f0c57e268f54"), looks := false }, kinds := [], alts := [], laidByText := true, laidKinds := [.data], laidTests := true, laidLooks := .later }
def ReplayRenamedUptoCardSaid : Prop := Claim7.holds Tryd.pinned (.plain (OpenSpec.upto replayRenamedSpec)) replayRenamedUptoCard

/-- THE SECOND FORM's CARD OF 'provenancekeep2.RewriteNone'. -/
def rewriteNoneUptoCard : Claim7 := { stood := { row := rewriteNoneUptoRow, standIns := [], harness := (true, "6e8b2092c34fd0929fa6cd7f15e00102a060f62040e1ea67a8d5f0c57e268f54"), looks := false }, kinds := [], alts := [], laidByText := true, laidKinds := [.data], laidTests := true, laidLooks := .later }
def RewriteNoneUptoCardSaid : Prop := Claim7.holds Tryd.pinned (.plain (OpenSpec.upto rewriteNoneSpec)) rewriteNoneUptoCard

/-- THE SECOND FORM's CARD OF 'provenancekeep2.RewriteAdded'. -/
def rewriteAddedUptoCard : Claim7 := { stood := { row := rewriteAddedUptoRow, standIns := [], harness := (true, "6e8b2092c34fd0929fa6cd7f15e00102a060f62040e1ea67a8d5f0c57e268f54"), looks := false }, kinds := [], alts := [], laidByText := true, laidKinds := [.data], laidTests := true, laidLooks := .later }
def RewriteAddedUptoCardSaid : Prop := Claim7.holds Tryd.pinned (.plain (OpenSpec.upto rewriteAddedSpec)) rewriteAddedUptoCard

/-- THE SECOND FORM's CARD OF 'provenancekeep2.PurityDrops'. -/
def purityDropsUptoCard : Claim7 := { stood := { row := purityDropsUptoRow, standIns := [], harness := (true, "6e8b2092c34fd0929fa6cd7f15e00102a060f62040e1ea67a8d5f0c57e268f54"), looks := false }, kinds := [], alts := [], laidByText := true, laidKinds := [.data], laidTests := true, laidLooks := .later }
def PurityDropsUptoCardSaid : Prop := Claim7.holds Tryd.pinned (.plain (OpenSpec.upto purityDropsSpec)) purityDropsUptoCard

/-- THE SECOND FORM's CARD OF 'provenancekeep2.FuseSelf'. -/
def fuseSelfUptoCard : Claim7 := { stood := { row := fuseSelfUptoRow, standIns := [], harness := (true, "6e8b2092c34fd0929fa6cd7f15e00102a060f62040e1ea67a8d5f0c57e268f54"), looks := false }, kinds := [], alts := [], laidByText := true, laidKinds := [.data], laidTests := true, laidLooks := .later }
def FuseSelfUptoCardSaid : Prop := Claim7.holds Tryd.pinned (.plain (OpenSpec.upto fuseSelfSpec)) fuseSelfUptoCard

/-- THE SECOND FORM's CARD OF 'provenancekeep2.FuseStops'. -/
def fuseStopsUptoCard : Claim7 := { stood := { row := fuseStopsUptoRow, standIns := [], harness := (true, "6e8b2092c34fd0929fa6cd7f15e00102a060f62040e1ea67a8d5f0c57e268f54"), looks := false }, kinds := [], alts := [], laidByText := true, laidKinds := [.data], laidTests := true, laidLooks := .later }
def FuseStopsUptoCardSaid : Prop := Claim7.holds Tryd.pinned (.plain (OpenSpec.upto fuseStopsSpec)) fuseStopsUptoCard
end Rows
end Go.Proofs.YtbmognfolkhkpaaDoor
