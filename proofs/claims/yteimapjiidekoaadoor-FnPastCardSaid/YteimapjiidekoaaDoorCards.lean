/-
  DERIVED. GIVEN WITH THE SEED: THE CARDS: each row of YteimapjiidekoaaDoorRows.lean that lists a variable, with what it lists TIED to the program's text (the seventh form; the later family's looks); each row that meets fmt, with fmt's text TOLD by the authors' own Lean function (tested against real Go, not proved from fmt's source: count such statements apart). THE CARD IS WHAT COUNTS. Prove the row's statement (the work); the ties are given (YteimapjiidekoaaDoorTie.lean); close each card by the builder's one call (the guide's Derived/Test/ToyasCard.lean, 'card_holds'). Laid BY PROGRAM, IN A SANDBOX (cutbox-door.mjs). By AI agents, Wed Nov 11 2026. No macro, syntax, notation, axiom, sorry.
-/
import Derived.Test.YteimapjiidekoaaDoorRows
import GoSem.ClaimSeven
namespace Go.Proofs.YteimapjiidekoaaDoor
namespace Rows

/-- THE TIED CARD OF 'laws.FnExactBringKv'. -/
def fnExactBringKvCard : Claim7 := { stood := { row := fnExactBringKvRow, standIns := [], harness := (true, "e77aaf797fdd3b452bf63d72a09cffdd7cdd91842df69b70103008e35d16be7d"), looks := false }, kinds := [], alts := [], laidByText := true, laidKinds := [.data, .pinned], laidTests := true, laidLooks := .later }
def FnExactBringKvCardSaid : Prop := Claim7.holds Tryd.pinned (.plain (OpenSpec.ofChange fnExactBringKvSpec)) fnExactBringKvCard

/-- THE TIED CARD OF 'laws.FnExactKillKv'. -/
def fnExactKillKvCard : Claim7 := { stood := { row := fnExactKillKvRow, standIns := [], harness := (true, "e77aaf797fdd3b452bf63d72a09cffdd7cdd91842df69b70103008e35d16be7d"), looks := false }, kinds := [], alts := [], laidByText := true, laidKinds := [.data, .pinned], laidTests := true, laidLooks := .later }
def FnExactKillKvCardSaid : Prop := Claim7.holds Tryd.pinned (.plain (OpenSpec.ofChange fnExactKillKvSpec)) fnExactKillKvCard

/-- THE TIED CARD OF 'laws.FnExactTakeKv'. -/
def fnExactTakeKvCard : Claim7 := { stood := { row := fnExactTakeKvRow, standIns := [], harness := (true, "e77aaf797fdd3b452bf63d72a09cffdd7cdd91842df69b70103008e35d16be7d"), looks := false }, kinds := [], alts := [], laidByText := true, laidKinds := [.data, .pinned], laidTests := true, laidLooks := .later }
def FnExactTakeKvCardSaid : Prop := Claim7.holds Tryd.pinned (.plain (OpenSpec.ofChange fnExactTakeKvSpec)) fnExactTakeKvCard

/-- THE TIED CARD OF 'laws.FnPast'. -/
def fnPastCard : Claim7 := { stood := { row := fnPastRow, standIns := [], harness := (true, "e77aaf797fdd3b452bf63d72a09cffdd7cdd91842df69b70103008e35d16be7d"), looks := false }, kinds := [], alts := [], laidByText := true, laidKinds := [.data, .pinned], laidTests := true, laidLooks := .later }
def FnPastCardSaid : Prop := Claim7.holds Tryd.pinned (.plain (OpenSpec.ofChange fnPastSpec)) fnPastCard

/-- THE TIED CARD OF 'laws.FnVersions'. -/
def fnVersionsCard : Claim7 := { stood := { row := fnVersionsRow, standIns := [], harness := (true, "e77aaf797fdd3b452bf63d72a09cffdd7cdd91842df69b70103008e35d16be7d"), looks := false }, kinds := [], alts := [], laidByText := true, laidKinds := [.data, .pinned], laidTests := true, laidLooks := .later }
def FnVersionsCardSaid : Prop := Claim7.holds Tryd.pinned (.plain (OpenSpec.ofChange fnVersionsSpec)) fnVersionsCard

/-- THE TIED CARD OF 'laws.FnExactPutKv'. -/
def fnExactPutKvCard : Claim7 := { stood := { row := fnExactPutKvRow, standIns := [], harness := (true, "e77aaf797fdd3b452bf63d72a09cffdd7cdd91842df69b70103008e35d16be7d"), looks := false }, kinds := [], alts := [], laidByText := true, laidKinds := [.data, .pinned], laidTests := true, laidLooks := .later }
def FnExactPutKvCardSaid : Prop := Claim7.holds Tryd.pinned (.plain (OpenSpec.ofChange fnExactPutKvSpec)) fnExactPutKvCard

/-- THE TIED CARD OF 'laws.FnListed'. -/
def fnListedCard : Claim7 := { stood := { row := fnListedRow, standIns := [], harness := (true, "e77aaf797fdd3b452bf63d72a09cffdd7cdd91842df69b70103008e35d16be7d"), looks := false }, kinds := [], alts := [], laidByText := true, laidKinds := [.data, .pinned], laidTests := true, laidLooks := .later }
def FnListedCardSaid : Prop := Claim7.holds Tryd.pinned (.plain (OpenSpec.ofChange fnListedSpec)) fnListedCard

/-- THE TIED CARD OF 'laws.FnExactListKv'. -/
def fnExactListKvCard : Claim7 := { stood := { row := fnExactListKvRow, standIns := [], harness := (true, "e77aaf797fdd3b452bf63d72a09cffdd7cdd91842df69b70103008e35d16be7d"), looks := false }, kinds := [], alts := [], laidByText := true, laidKinds := [.data, .pinned], laidTests := true, laidLooks := .later }
def FnExactListKvCardSaid : Prop := Claim7.holds Tryd.pinned (.plain (OpenSpec.ofChange fnExactListKvSpec)) fnExactListKvCard

/-- THE SECOND FORM's CARD OF 'laws.FnExactBringKv'. -/
def fnExactBringKvUptoCard : Claim7 := { stood := { row := fnExactBringKvUptoRow, standIns := [], harness := (true, "e77aaf797fdd3b452bf63d72a09cffdd7cdd91842df69b70103008e35d16be7d"), looks := false }, kinds := [], alts := [], laidByText := true, laidKinds := [.data, .pinned], laidTests := true, laidLooks := .later }
def FnExactBringKvUptoCardSaid : Prop := Claim7.holds Tryd.pinned (.plain (OpenSpec.upto fnExactBringKvSpec)) fnExactBringKvUptoCard

/-- THE SECOND FORM's CARD OF 'laws.FnExactKillKv'. -/
def fnExactKillKvUptoCard : Claim7 := { stood := { row := fnExactKillKvUptoRow, standIns := [], harness := (true, "e77aaf797fdd3b452bf63d72a09cffdd7cdd91842df69b70103008e35d16be7d"), looks := false }, kinds := [], alts := [], laidByText := true, laidKinds := [.data, .pinned], laidTests := true, laidLooks := .later }
def FnExactKillKvUptoCardSaid : Prop := Claim7.holds Tryd.pinned (.plain (OpenSpec.upto fnExactKillKvSpec)) fnExactKillKvUptoCard

/-- THE SECOND FORM's CARD OF 'laws.FnExactTakeKv'. -/
def fnExactTakeKvUptoCard : Claim7 := { stood := { row := fnExactTakeKvUptoRow, standIns := [], harness := (true, "e77aaf797fdd3b452bf63d72a09cffdd7cdd91842df69b70103008e35d16be7d"), looks := false }, kinds := [], alts := [], laidByText := true, laidKinds := [.data, .pinned], laidTests := true, laidLooks := .later }
def FnExactTakeKvUptoCardSaid : Prop := Claim7.holds Tryd.pinned (.plain (OpenSpec.upto fnExactTakeKvSpec)) fnExactTakeKvUptoCard

/-- THE SECOND FORM's CARD OF 'laws.FnPast'. -/
def fnPastUptoCard : Claim7 := { stood := { row := fnPastUptoRow, standIns := [], harness := (true, "e77aaf797fdd3b452bf63d72a09cffdd7cdd91842df69b70103008e35d16be7d"), looks := false }, kinds := [], alts := [], laidByText := true, laidKinds := [.data, .pinned], laidTests := true, laidLooks := .later }
def FnPastUptoCardSaid : Prop := Claim7.holds Tryd.pinned (.plain (OpenSpec.upto fnPastSpec)) fnPastUptoCard

/-- THE SECOND FORM's CARD OF 'laws.FnVersions'. -/
def fnVersionsUptoCard : Claim7 := { stood := { row := fnVersionsUptoRow, standIns := [], harness := (true, "e77aaf797fdd3b452bf63d72a09cffdd7cdd91842df69b70103008e35d16be7d"), looks := false }, kinds := [], alts := [], laidByText := true, laidKinds := [.data, .pinned], laidTests := true, laidLooks := .later }
def FnVersionsUptoCardSaid : Prop := Claim7.holds Tryd.pinned (.plain (OpenSpec.upto fnVersionsSpec)) fnVersionsUptoCard

/-- THE SECOND FORM's CARD OF 'laws.FnExactPutKv'. -/
def fnExactPutKvUptoCard : Claim7 := { stood := { row := fnExactPutKvUptoRow, standIns := [], harness := (true, "e77aaf797fdd3b452bf63d72a09cffdd7cdd91842df69b70103008e35d16be7d"), looks := false }, kinds := [], alts := [], laidByText := true, laidKinds := [.data, .pinned], laidTests := true, laidLooks := .later }
def FnExactPutKvUptoCardSaid : Prop := Claim7.holds Tryd.pinned (.plain (OpenSpec.upto fnExactPutKvSpec)) fnExactPutKvUptoCard

/-- THE SECOND FORM's CARD OF 'laws.FnListed'. -/
def fnListedUptoCard : Claim7 := { stood := { row := fnListedUptoRow, standIns := [], harness := (true, "e77aaf797fdd3b452bf63d72a09cffdd7cdd91842df69b70103008e35d16be7d"), looks := false }, kinds := [], alts := [], laidByText := true, laidKinds := [.data, .pinned], laidTests := true, laidLooks := .later }
def FnListedUptoCardSaid : Prop := Claim7.holds Tryd.pinned (.plain (OpenSpec.upto fnListedSpec)) fnListedUptoCard

/-- THE SECOND FORM's CARD OF 'laws.FnExactListKv'. -/
def fnExactListKvUptoCard : Claim7 := { stood := { row := fnExactListKvUptoRow, standIns := [], harness := (true, "e77aaf797fdd3b452bf63d72a09cffdd7cdd91842df69b70103008e35d16be7d"), looks := false }, kinds := [], alts := [], laidByText := true, laidKinds := [.data, .pinned], laidTests := true, laidLooks := .later }
def FnExactListKvUptoCardSaid : Prop := Claim7.holds Tryd.pinned (.plain (OpenSpec.upto fnExactListKvSpec)) fnExactListKvUptoCard
end Rows
end Go.Proofs.YteimapjiidekoaaDoor
