/-
  DERIVED. GIVEN WITH THE SEED: THE CARDS: each row of YtaaloiloklnbiaaDoorRows.lean that lists a variable, with what it lists TIED to the program's text (the seventh form; the later family's looks); each row that meets fmt, with fmt's text TOLD by the authors' own Lean function (tested against real Go, not proved from fmt's source: count such statements apart). THE CARD IS WHAT COUNTS. Prove the row's statement (the work); the ties are given (YtaaloiloklnbiaaDoorTie.lean); close each card by the builder's one call (the guide's Derived/Test/ToyasCard.lean, 'card_holds'). Laid BY PROGRAM, IN A SANDBOX (cutbox-door.mjs). By AI agents, Wed Nov 11 2026. No macro, syntax, notation, axiom, sorry.
-/
import Derived.Test.YtaaloiloklnbiaaDoorRows
import GoSem.ClaimSeven
namespace Go.Proofs.YtaaloiloklnbiaaDoor
namespace Rows

/-- THE TIED CARD OF 'laws.FnUsers'. -/
def fnUsersCard : Claim7 := { stood := { row := fnUsersRow, standIns := [], harness := (true, "e8e53d3879187223b2662f531a3907b4cd81960c028949bd828188ae1fa5b017"), looks := false }, kinds := [], alts := [], laidByText := true, laidKinds := [.data, .data, .data], laidTests := true, laidLooks := .later }
def FnUsersCardSaid : Prop := Claim7.holds Tryd.pinned (.plain (OpenSpec.ofChange fnUsersSpec)) fnUsersCard

/-- THE TIED CARD OF 'laws.FnExactMakeUser'. -/
def fnExactMakeUserCard : Claim7 := { stood := { row := fnExactMakeUserRow, standIns := [], harness := (true, "e8e53d3879187223b2662f531a3907b4cd81960c028949bd828188ae1fa5b017"), looks := false }, kinds := [], alts := [], laidByText := true, laidKinds := [.data, .data, .data], laidTests := true, laidLooks := .later }
def FnExactMakeUserCardSaid : Prop := Claim7.holds Tryd.pinned (.plain (OpenSpec.ofChange fnExactMakeUserSpec)) fnExactMakeUserCard

/-- THE SECOND FORM's CARD OF 'laws.FnUsers'. -/
def fnUsersUptoCard : Claim7 := { stood := { row := fnUsersUptoRow, standIns := [], harness := (true, "e8e53d3879187223b2662f531a3907b4cd81960c028949bd828188ae1fa5b017"), looks := false }, kinds := [], alts := [], laidByText := true, laidKinds := [.data, .data, .data], laidTests := true, laidLooks := .later }
def FnUsersUptoCardSaid : Prop := Claim7.holds Tryd.pinned (.plain (OpenSpec.upto fnUsersSpec)) fnUsersUptoCard

/-- THE SECOND FORM's CARD OF 'laws.FnExactMakeUser'. -/
def fnExactMakeUserUptoCard : Claim7 := { stood := { row := fnExactMakeUserUptoRow, standIns := [], harness := (true, "e8e53d3879187223b2662f531a3907b4cd81960c028949bd828188ae1fa5b017"), looks := false }, kinds := [], alts := [], laidByText := true, laidKinds := [.data, .data, .data], laidTests := true, laidLooks := .later }
def FnExactMakeUserUptoCardSaid : Prop := Claim7.holds Tryd.pinned (.plain (OpenSpec.upto fnExactMakeUserSpec)) fnExactMakeUserUptoCard
end Rows
end Go.Proofs.YtaaloiloklnbiaaDoor
