/-
  DERIVED. GIVEN WITH THE SEED: THE CARDS: each row of YtiooaephjjkgdaaDoorRows.lean that lists a variable, with what it lists TIED to the program's text (the seventh form; the later family's looks); each row that meets fmt, with fmt's text TOLD by the authors' own Lean function (tested against real Go, not proved from fmt's source: count such statements apart). THE CARD IS WHAT COUNTS. Prove the row's statement (the work); the ties are given (YtiooaephjjkgdaaDoorTie.lean); close each card by the builder's one call (the guide's Derived/Test/ToyasCard.lean, 'card_holds'). Laid BY PROGRAM, IN A SANDBOX (cutbox-door.mjs). By AI agents, Wed Nov 11 2026. No macro, syntax, notation, axiom, sorry.
-/
import Derived.Test.YtiooaephjjkgdaaDoorRows
import GoSem.ClaimSeven
namespace Go.Proofs.YtiooaephjjkgdaaDoor
namespace Rows

/-- THE TIED CARD OF 'laws.FnExactRackOk'. -/
def fnExactRackOkCard : Claim7 := { stood := { row := fnExactRackOkRow, standIns := [], harness := (true, "537fdc430e219b38e88887394dda1142b3a8b0ed6449f2509e97a26557ab823d"), looks := false }, kinds := [], alts := [], laidByText := true, laidKinds := [.data, .pinned], laidTests := true, laidLooks := .later }
def FnExactRackOkCardSaid : Prop := Claim7.holds Tryd.pinned (.plain (OpenSpec.ofChange fnExactRackOkSpec)) fnExactRackOkCard

/-- THE TIED CARD OF 'laws.FnExactStoreOk'. -/
def fnExactStoreOkCard : Claim7 := { stood := { row := fnExactStoreOkRow, standIns := [], harness := (true, "537fdc430e219b38e88887394dda1142b3a8b0ed6449f2509e97a26557ab823d"), looks := false }, kinds := [], alts := [], laidByText := true, laidKinds := [.data, .pinned], laidTests := true, laidLooks := .later }
def FnExactStoreOkCardSaid : Prop := Claim7.holds Tryd.pinned (.plain (OpenSpec.ofChange fnExactStoreOkSpec)) fnExactStoreOkCard

/-- THE TIED CARD OF 'laws.FnExactGetKv'. -/
def fnExactGetKvCard : Claim7 := { stood := { row := fnExactGetKvRow, standIns := [], harness := (true, "537fdc430e219b38e88887394dda1142b3a8b0ed6449f2509e97a26557ab823d"), looks := false }, kinds := [], alts := [], laidByText := true, laidKinds := [.data, .pinned], laidTests := true, laidLooks := .later }
def FnExactGetKvCardSaid : Prop := Claim7.holds Tryd.pinned (.plain (OpenSpec.ofChange fnExactGetKvSpec)) fnExactGetKvCard

/-- THE TIED CARD OF 'laws.FnExactDropKv'. -/
def fnExactDropKvCard : Claim7 := { stood := { row := fnExactDropKvRow, standIns := [], harness := (true, "537fdc430e219b38e88887394dda1142b3a8b0ed6449f2509e97a26557ab823d"), looks := false }, kinds := [], alts := [], laidByText := true, laidKinds := [.data, .pinned], laidTests := true, laidLooks := .later }
def FnExactDropKvCardSaid : Prop := Claim7.holds Tryd.pinned (.plain (OpenSpec.ofChange fnExactDropKvSpec)) fnExactDropKvCard

/-- THE TIED CARD OF 'laws.FnExactBringKv'. -/
def fnExactBringKvCard : Claim7 := { stood := { row := fnExactBringKvRow, standIns := [], harness := (true, "537fdc430e219b38e88887394dda1142b3a8b0ed6449f2509e97a26557ab823d"), looks := false }, kinds := [], alts := [], laidByText := true, laidKinds := [.data, .pinned], laidTests := true, laidLooks := .later }
def FnExactBringKvCardSaid : Prop := Claim7.holds Tryd.pinned (.plain (OpenSpec.ofChange fnExactBringKvSpec)) fnExactBringKvCard

/-- THE TIED CARD OF 'laws.FnExactKillKv'. -/
def fnExactKillKvCard : Claim7 := { stood := { row := fnExactKillKvRow, standIns := [], harness := (true, "537fdc430e219b38e88887394dda1142b3a8b0ed6449f2509e97a26557ab823d"), looks := false }, kinds := [], alts := [], laidByText := true, laidKinds := [.data, .pinned], laidTests := true, laidLooks := .later }
def FnExactKillKvCardSaid : Prop := Claim7.holds Tryd.pinned (.plain (OpenSpec.ofChange fnExactKillKvSpec)) fnExactKillKvCard

/-- THE TIED CARD OF 'laws.FnExactTakeKv'. -/
def fnExactTakeKvCard : Claim7 := { stood := { row := fnExactTakeKvRow, standIns := [], harness := (true, "537fdc430e219b38e88887394dda1142b3a8b0ed6449f2509e97a26557ab823d"), looks := false }, kinds := [], alts := [], laidByText := true, laidKinds := [.data, .pinned], laidTests := true, laidLooks := .later }
def FnExactTakeKvCardSaid : Prop := Claim7.holds Tryd.pinned (.plain (OpenSpec.ofChange fnExactTakeKvSpec)) fnExactTakeKvCard

/-- THE TIED CARD OF 'laws.FnExactKvText'. -/
def fnExactKvTextCard : Claim7 := { stood := { row := fnExactKvTextRow, standIns := [], harness := (true, "537fdc430e219b38e88887394dda1142b3a8b0ed6449f2509e97a26557ab823d"), looks := false }, kinds := [], alts := [], laidByText := true, laidKinds := [.data, .data, .data, .data, .pinned], laidTests := true, laidLooks := .later }
def FnExactKvTextCardSaid : Prop := Claim7.holds Tryd.pinned (.plain (OpenSpec.ofChange fnExactKvTextSpec)) fnExactKvTextCard

/-- THE SECOND FORM's CARD OF 'laws.FnExactRackOk'. -/
def fnExactRackOkUptoCard : Claim7 := { stood := { row := fnExactRackOkUptoRow, standIns := [], harness := (true, "537fdc430e219b38e88887394dda1142b3a8b0ed6449f2509e97a26557ab823d"), looks := false }, kinds := [], alts := [], laidByText := true, laidKinds := [.data, .pinned], laidTests := true, laidLooks := .later }
def FnExactRackOkUptoCardSaid : Prop := Claim7.holds Tryd.pinned (.plain (OpenSpec.upto fnExactRackOkSpec)) fnExactRackOkUptoCard

/-- THE SECOND FORM's CARD OF 'laws.FnExactStoreOk'. -/
def fnExactStoreOkUptoCard : Claim7 := { stood := { row := fnExactStoreOkUptoRow, standIns := [], harness := (true, "537fdc430e219b38e88887394dda1142b3a8b0ed6449f2509e97a26557ab823d"), looks := false }, kinds := [], alts := [], laidByText := true, laidKinds := [.data, .pinned], laidTests := true, laidLooks := .later }
def FnExactStoreOkUptoCardSaid : Prop := Claim7.holds Tryd.pinned (.plain (OpenSpec.upto fnExactStoreOkSpec)) fnExactStoreOkUptoCard

/-- THE SECOND FORM's CARD OF 'laws.FnExactGetKv'. -/
def fnExactGetKvUptoCard : Claim7 := { stood := { row := fnExactGetKvUptoRow, standIns := [], harness := (true, "537fdc430e219b38e88887394dda1142b3a8b0ed6449f2509e97a26557ab823d"), looks := false }, kinds := [], alts := [], laidByText := true, laidKinds := [.data, .pinned], laidTests := true, laidLooks := .later }
def FnExactGetKvUptoCardSaid : Prop := Claim7.holds Tryd.pinned (.plain (OpenSpec.upto fnExactGetKvSpec)) fnExactGetKvUptoCard

/-- THE SECOND FORM's CARD OF 'laws.FnExactDropKv'. -/
def fnExactDropKvUptoCard : Claim7 := { stood := { row := fnExactDropKvUptoRow, standIns := [], harness := (true, "537fdc430e219b38e88887394dda1142b3a8b0ed6449f2509e97a26557ab823d"), looks := false }, kinds := [], alts := [], laidByText := true, laidKinds := [.data, .pinned], laidTests := true, laidLooks := .later }
def FnExactDropKvUptoCardSaid : Prop := Claim7.holds Tryd.pinned (.plain (OpenSpec.upto fnExactDropKvSpec)) fnExactDropKvUptoCard

/-- THE SECOND FORM's CARD OF 'laws.FnExactBringKv'. -/
def fnExactBringKvUptoCard : Claim7 := { stood := { row := fnExactBringKvUptoRow, standIns := [], harness := (true, "537fdc430e219b38e88887394dda1142b3a8b0ed6449f2509e97a26557ab823d"), looks := false }, kinds := [], alts := [], laidByText := true, laidKinds := [.data, .pinned], laidTests := true, laidLooks := .later }
def FnExactBringKvUptoCardSaid : Prop := Claim7.holds Tryd.pinned (.plain (OpenSpec.upto fnExactBringKvSpec)) fnExactBringKvUptoCard

/-- THE SECOND FORM's CARD OF 'laws.FnExactKillKv'. -/
def fnExactKillKvUptoCard : Claim7 := { stood := { row := fnExactKillKvUptoRow, standIns := [], harness := (true, "537fdc430e219b38e88887394dda1142b3a8b0ed6449f2509e97a26557ab823d"), looks := false }, kinds := [], alts := [], laidByText := true, laidKinds := [.data, .pinned], laidTests := true, laidLooks := .later }
def FnExactKillKvUptoCardSaid : Prop := Claim7.holds Tryd.pinned (.plain (OpenSpec.upto fnExactKillKvSpec)) fnExactKillKvUptoCard

/-- THE SECOND FORM's CARD OF 'laws.FnExactTakeKv'. -/
def fnExactTakeKvUptoCard : Claim7 := { stood := { row := fnExactTakeKvUptoRow, standIns := [], harness := (true, "537fdc430e219b38e88887394dda1142b3a8b0ed6449f2509e97a26557ab823d"), looks := false }, kinds := [], alts := [], laidByText := true, laidKinds := [.data, .pinned], laidTests := true, laidLooks := .later }
def FnExactTakeKvUptoCardSaid : Prop := Claim7.holds Tryd.pinned (.plain (OpenSpec.upto fnExactTakeKvSpec)) fnExactTakeKvUptoCard

/-- THE SECOND FORM's CARD OF 'laws.FnExactKvText'. -/
def fnExactKvTextUptoCard : Claim7 := { stood := { row := fnExactKvTextUptoRow, standIns := [], harness := (true, "537fdc430e219b38e88887394dda1142b3a8b0ed6449f2509e97a26557ab823d"), looks := false }, kinds := [], alts := [], laidByText := true, laidKinds := [.data, .data, .data, .data, .pinned], laidTests := true, laidLooks := .later }
def FnExactKvTextUptoCardSaid : Prop := Claim7.holds Tryd.pinned (.plain (OpenSpec.upto fnExactKvTextSpec)) fnExactKvTextUptoCard
end Rows
end Go.Proofs.YtiooaephjjkgdaaDoor
