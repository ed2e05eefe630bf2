/-
  DERIVED. GIVEN WITH THE SEED: THE CARDS: each row of YtlblkpcjknjijaaGreatDoorRows.lean that lists a variable, with what it lists TIED to the program's text (the seventh form; the later family's looks); each row that meets fmt, with fmt's text TOLD by the authors' own Lean function (tested against real Go, not proved from fmt's source: count such statements apart). THE CARD IS WHAT COUNTS. Prove the row's statement (the work); the ties are given (YtlblkpcjknjijaaGreatDoorTie.lean); close each card by the builder's one call (the guide's Derived/Test/ToyasCard.lean, 'card_holds'). Laid BY PROGRAM, IN A SANDBOX (cutbox-door.mjs). By AI agents, Wed Nov 11 2026. No macro, syntax, notation, axiom, sorry.
-/
import Derived.Test.YtlblkpcjknjijaaGreatDoorRows
import GoSem.ClaimSeven
namespace Go.Proofs.YtlblkpcjknjijaaGreatDoor
namespace Rows

/-- THE TIED CARD OF 'laws.FnIssued'. -/
def fnIssuedCard : Claim7 := { stood := { row := fnIssuedRow, standIns := [], harness := (true, "3873d019d0ff175d8ea08c91aa11b0d7b019e980f9668fd03d7459504c376d5d"), looks := false }, kinds := [], alts := [], laidByText := true, laidKinds := [.data, .pinned], laidTests := true, laidLooks := .later }
def FnIssuedCardSaid : Prop := Claim7.holds Tryz.pinned (.plain (OpenSpec.ofChange fnIssuedSpec)) fnIssuedCard

/-- THE TIED CARD OF 'laws.FnChain'. -/
def fnChainCard : Claim7 := { stood := { row := fnChainRow, standIns := [], harness := (true, "3873d019d0ff175d8ea08c91aa11b0d7b019e980f9668fd03d7459504c376d5d"), looks := false }, kinds := [], alts := [], laidByText := true, laidKinds := [.data, .pinned], laidTests := true, laidLooks := .later }
def FnChainCardSaid : Prop := Claim7.holds Tryz.pinned (.plain (OpenSpec.ofChange fnChainSpec)) fnChainCard

/-- THE SECOND FORM's CARD OF 'laws.FnIssued'. -/
def fnIssuedUptoCard : Claim7 := { stood := { row := fnIssuedUptoRow, standIns := [], harness := (true, "3873d019d0ff175d8ea08c91aa11b0d7b019e980f9668fd03d7459504c376d5d"), looks := false }, kinds := [], alts := [], laidByText := true, laidKinds := [.data, .pinned], laidTests := true, laidLooks := .later }
def FnIssuedUptoCardSaid : Prop := Claim7.holds Tryz.pinned (.plain (OpenSpec.upto fnIssuedSpec)) fnIssuedUptoCard

/-- THE SECOND FORM's CARD OF 'laws.FnChain'. -/
def fnChainUptoCard : Claim7 := { stood := { row := fnChainUptoRow, standIns := [], harness := (true, "3873d019d0ff175d8ea08c91aa11b0d7b019e980f9668fd03d7459504c376d5d"), looks := false }, kinds := [], alts := [], laidByText := true, laidKinds := [.data, .pinned], laidTests := true, laidLooks := .later }
def FnChainUptoCardSaid : Prop := Claim7.holds Tryz.pinned (.plain (OpenSpec.upto fnChainSpec)) fnChainUptoCard
end Rows
end Go.Proofs.YtlblkpcjknjijaaGreatDoor
