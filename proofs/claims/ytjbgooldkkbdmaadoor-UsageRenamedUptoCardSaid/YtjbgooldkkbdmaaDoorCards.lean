/-
  DERIVED. GIVEN WITH THE SEED: THE CARDS: each row of YtjbgooldkkbdmaaDoorRows.lean that lists a variable, with what it lists TIED to the program's text (the seventh form; the later family's looks); each row that meets fmt, with fmt's text TOLD by the authors' own Lean function (tested against real Go, not proved from fmt's source: count such statements apart). THE CARD IS WHAT COUNTS. Prove the row's statement (the work); the ties are given (YtjbgooldkkbdmaaDoorTie.lean); close each card by the builder's one call (the guide's Derived/Test/ToyasCard.lean, 'card_holds'). Laid BY PROGRAM, IN A SANDBOX (cutbox-door.mjs). By AI agents, Wed Nov 11 2026. No macro, syntax, notation, axiom, sorry.
-/
import Derived.Test.YtjbgooldkkbdmaaDoorRows
import GoSem.ClaimSeven
namespace Go.Proofs.YtjbgooldkkbdmaaDoor
namespace Rows

/-- THE TIED CARD OF 'provenancekeep2.UsageNever'. -/
def usageNeverCard : Claim7 := { stood := { row := usageNeverRow, standIns := [], harness := (true, "291692af7fcfb06fa3f92cf4b429a72487269ffb8edb1d0caa663219acb323d8"), looks := false }, kinds := [], alts := [], laidByText := true, laidKinds := [.data], laidTests := true, laidLooks := .later }
def UsageNeverCardSaid : Prop := Claim7.holds Tryd.pinned (.plain (OpenSpec.ofChange usageNeverSpec)) usageNeverCard

/-- THE TIED CARD OF 'provenancekeep2.UsageRenamed'. -/
def usageRenamedCard : Claim7 := { stood := { row := usageRenamedRow, standIns := [], harness := (true, "291692af7fcfb06fa3f92cf4b429a72487269ffb8edb1d0caa663219acb323d8"), looks := false }, kinds := [], alts := [], laidByText := true, laidKinds := [.data], laidTests := true, laidLooks := .later }
def UsageRenamedCardSaid : Prop := Claim7.holds Tryd.pinned (.plain (OpenSpec.ofChange usageRenamedSpec)) usageRenamedCard

/-- THE SECOND FORM's CARD OF 'provenancekeep2.UsageNever'. -/
def usageNeverUptoCard : Claim7 := { stood := { row := usageNeverUptoRow, standIns := [], harness := (true, "291692af7fcfb06fa3f92cf4b429a72487269ffb8edb1d0caa663219acb323d8"), looks := false }, kinds := [], alts := [], laidByText := true, laidKinds := [.data], laidTests := true, laidLooks := .later }
def UsageNeverUptoCardSaid : Prop := Claim7.holds Tryd.pinned (.plain (OpenSpec.upto usageNeverSpec)) usageNeverUptoCard

/-- THE SECOND FORM's CARD OF 'provenancekeep2.UsageRenamed'. -/
def usageRenamedUptoCard : Claim7 := { stood := { row := usageRenamedUptoRow, standIns := [], harness := (true, "291692af7fcfb06fa3f92cf4b429a72487269ffb8edb1d0caa663219acb323d8"), looks := false }, kinds := [], alts := [], laidByText := true, laidKinds := [.data], laidTests := true, laidLooks := .later }
def UsageRenamedUptoCardSaid : Prop := Claim7.holds Tryd.pinned (.plain (OpenSpec.upto usageRenamedSpec)) usageRenamedUptoCard
end Rows
end Go.Proofs.YtjbgooldkkbdmaaDoor
