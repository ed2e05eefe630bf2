/-
  DERIVED. GIVEN WITH THE SEED: THE CARDS: each row of YtjddcbkpabeioaaDoorRows.lean that lists a variable, with what it lists TIED to the program's text (the seventh form; the later family's looks); each row that meets fmt, with fmt's text TOLD by the authors' own Lean function (tested against real Go, not proved from fmt's source: count such statements apart). THE CARD IS WHAT COUNTS. Prove the row's statement (the work); the ties are given (YtjddcbkpabeioaaDoorTie.lean); close each card by the builder's one call (the guide's Derived/Test/ToyasCard.lean, 'card_holds'). Laid BY PROGRAM, IN A SANDBOX (cutbox-door.mjs). By AI agents, Wed Nov 11 2026. No macro, syntax, notation, axiom, sorry.
-/
import Derived.Test.YtjddcbkpabeioaaDoorRows
import GoSem.ClaimSeven
namespace Go.Proofs.YtjddcbkpabeioaaDoor
namespace Rows

/-- THE TIED CARD OF 'laws.FnExactRackOk'. -/
def fnExactRackOkCard : Claim7 := { stood := { row := fnExactRackOkRow, standIns := [], harness := (true, "56ae0a3b7fe5db5007153f126b037c6dafd14d6dd8724ef69f62843c99840cc7"), looks := false }, kinds := [], alts := [], laidByText := true, laidKinds := [.data, .pinned], laidTests := true, laidLooks := .later }
def FnExactRackOkCardSaid : Prop := Claim7.holds Tryd.pinned (.plain (OpenSpec.ofChange fnExactRackOkSpec)) fnExactRackOkCard

/-- THE TIED CARD OF 'laws.FnExactPileOk'. -/
def fnExactPileOkCard : Claim7 := { stood := { row := fnExactPileOkRow, standIns := [], harness := (true, "56ae0a3b7fe5db5007153f126b037c6dafd14d6dd8724ef69f62843c99840cc7"), looks := false }, kinds := [], alts := [], laidByText := true, laidKinds := [.data, .pinned], laidTests := true, laidLooks := .later }
def FnExactPileOkCardSaid : Prop := Claim7.holds Tryd.pinned (.plain (OpenSpec.ofChange fnExactPileOkSpec)) fnExactPileOkCard

/-- THE TIED CARD OF 'laws.FnUsers'. -/
def fnUsersCard : Claim7 := { stood := { row := fnUsersRow, standIns := [], harness := (true, "56ae0a3b7fe5db5007153f126b037c6dafd14d6dd8724ef69f62843c99840cc7"), looks := false }, kinds := [], alts := [], laidByText := true, laidKinds := [.data, .data, .data], laidTests := true, laidLooks := .later }
def FnUsersCardSaid : Prop := Claim7.holds Tryd.pinned (.plain (OpenSpec.ofChange fnUsersSpec)) fnUsersCard

/-- THE TIED CARD OF 'laws.FnExactMakeUser'. -/
def fnExactMakeUserCard : Claim7 := { stood := { row := fnExactMakeUserRow, standIns := [], harness := (true, "56ae0a3b7fe5db5007153f126b037c6dafd14d6dd8724ef69f62843c99840cc7"), looks := false }, kinds := [], alts := [], laidByText := true, laidKinds := [.data, .data, .data], laidTests := true, laidLooks := .later }
def FnExactMakeUserCardSaid : Prop := Claim7.holds Tryd.pinned (.plain (OpenSpec.ofChange fnExactMakeUserSpec)) fnExactMakeUserCard

/-- THE TIED CARD OF 'laws.FnExactPruneDead'. -/
def fnExactPruneDeadCard : Claim7 := { stood := { row := fnExactPruneDeadRow, standIns := [], harness := (true, "56ae0a3b7fe5db5007153f126b037c6dafd14d6dd8724ef69f62843c99840cc7"), looks := false }, kinds := [], alts := [], laidByText := true, laidKinds := [.data, .pinned], laidTests := true, laidLooks := .later }
def FnExactPruneDeadCardSaid : Prop := Claim7.holds Tryd.pinned (.plain (OpenSpec.ofChange fnExactPruneDeadSpec)) fnExactPruneDeadCard

/-- THE TIED CARD OF 'laws.FnExactCrlText'. -/
def fnExactCrlTextCard : Claim7 := { stood := { row := fnExactCrlTextRow, standIns := [], harness := (true, "56ae0a3b7fe5db5007153f126b037c6dafd14d6dd8724ef69f62843c99840cc7"), looks := false }, kinds := [], alts := [], laidByText := true, laidKinds := [.data, .data, .data, .data, .pinned], laidTests := true, laidLooks := .later }
def FnExactCrlTextCardSaid : Prop := Claim7.holds Tryd.pinned (.plain (OpenSpec.ofChange fnExactCrlTextSpec)) fnExactCrlTextCard

/-- THE TIED CARD OF 'laws.FnExactCheckChain'. -/
def fnExactCheckChainCard : Claim7 := { stood := { row := fnExactCheckChainRow, standIns := [], harness := (true, "56ae0a3b7fe5db5007153f126b037c6dafd14d6dd8724ef69f62843c99840cc7"), looks := false }, kinds := [], alts := [], laidByText := true, laidKinds := [.data, .pinned], laidTests := true, laidLooks := .later }
def FnExactCheckChainCardSaid : Prop := Claim7.holds Tryd.pinned (.plain (OpenSpec.ofChange fnExactCheckChainSpec)) fnExactCheckChainCard

/-- THE TIED CARD OF 'laws.FnExactKillCert'. -/
def fnExactKillCertCard : Claim7 := { stood := { row := fnExactKillCertRow, standIns := [], harness := (true, "56ae0a3b7fe5db5007153f126b037c6dafd14d6dd8724ef69f62843c99840cc7"), looks := false }, kinds := [], alts := [], laidByText := true, laidKinds := [.data, .pinned], laidTests := true, laidLooks := .later }
def FnExactKillCertCardSaid : Prop := Claim7.holds Tryd.pinned (.plain (OpenSpec.ofChange fnExactKillCertSpec)) fnExactKillCertCard

/-- THE SECOND FORM's CARD OF 'laws.FnExactRackOk'. -/
def fnExactRackOkUptoCard : Claim7 := { stood := { row := fnExactRackOkUptoRow, standIns := [], harness := (true, "56ae0a3b7fe5db5007153f126b037c6dafd14d6dd8724ef69f62843c99840cc7"), looks := false }, kinds := [], alts := [], laidByText := true, laidKinds := [.data, .pinned], laidTests := true, laidLooks := .later }
def FnExactRackOkUptoCardSaid : Prop := Claim7.holds Tryd.pinned (.plain (OpenSpec.upto fnExactRackOkSpec)) fnExactRackOkUptoCard

/-- THE SECOND FORM's CARD OF 'laws.FnExactPileOk'. -/
def fnExactPileOkUptoCard : Claim7 := { stood := { row := fnExactPileOkUptoRow, standIns := [], harness := (true, "56ae0a3b7fe5db5007153f126b037c6dafd14d6dd8724ef69f62843c99840cc7"), looks := false }, kinds := [], alts := [], laidByText := true, laidKinds := [.data, .pinned], laidTests := true, laidLooks := .later }
def FnExactPileOkUptoCardSaid : Prop := Claim7.holds Tryd.pinned (.plain (OpenSpec.upto fnExactPileOkSpec)) fnExactPileOkUptoCard

/-- THE SECOND FORM's CARD OF 'laws.FnUsers'. -/
def fnUsersUptoCard : Claim7 := { stood := { row := fnUsersUptoRow, standIns := [], harness := (true, "56ae0a3b7fe5db5007153f126b037c6dafd14d6dd8724ef69f62843c99840cc7"), looks := false }, kinds := [], alts := [], laidByText := true, laidKinds := [.data, .data, .data], laidTests := true, laidLooks := .later }
def FnUsersUptoCardSaid : Prop := Claim7.holds Tryd.pinned (.plain (OpenSpec.upto fnUsersSpec)) fnUsersUptoCard

/-- THE SECOND FORM's CARD OF 'laws.FnExactMakeUser'. -/
def fnExactMakeUserUptoCard : Claim7 := { stood := { row := fnExactMakeUserUptoRow, standIns := [], harness := (true, "56ae0a3b7fe5db5007153f126b037c6dafd14d6dd8724ef69f62843c99840cc7"), looks := false }, kinds := [], alts := [], laidByText := true, laidKinds := [.data, .data, .data], laidTests := true, laidLooks := .later }
def FnExactMakeUserUptoCardSaid : Prop := Claim7.holds Tryd.pinned (.plain (OpenSpec.upto fnExactMakeUserSpec)) fnExactMakeUserUptoCard

/-- THE SECOND FORM's CARD OF 'laws.FnExactPruneDead'. -/
def fnExactPruneDeadUptoCard : Claim7 := { stood := { row := fnExactPruneDeadUptoRow, standIns := [], harness := (true, "56ae0a3b7fe5db5007153f126b037c6dafd14d6dd8724ef69f62843c99840cc7"), looks := false }, kinds := [], alts := [], laidByText := true, laidKinds := [.data, .pinned], laidTests := true, laidLooks := .later }
def FnExactPruneDeadUptoCardSaid : Prop := Claim7.holds Tryd.pinned (.plain (OpenSpec.upto fnExactPruneDeadSpec)) fnExactPruneDeadUptoCard

/-- THE SECOND FORM's CARD OF 'laws.FnExactCrlText'. -/
def fnExactCrlTextUptoCard : Claim7 := { stood := { row := fnExactCrlTextUptoRow, standIns := [], harness := (true, "56ae0a3b7fe5db5007153f126b037c6dafd14d6dd8724ef69f62843c99840cc7"), looks := false }, kinds := [], alts := [], laidByText := true, laidKinds := [.data, .data, .data, .data, .pinned], laidTests := true, laidLooks := .later }
def FnExactCrlTextUptoCardSaid : Prop := Claim7.holds Tryd.pinned (.plain (OpenSpec.upto fnExactCrlTextSpec)) fnExactCrlTextUptoCard

/-- THE SECOND FORM's CARD OF 'laws.FnExactCheckChain'. -/
def fnExactCheckChainUptoCard : Claim7 := { stood := { row := fnExactCheckChainUptoRow, standIns := [], harness := (true, "56ae0a3b7fe5db5007153f126b037c6dafd14d6dd8724ef69f62843c99840cc7"), looks := false }, kinds := [], alts := [], laidByText := true, laidKinds := [.data, .pinned], laidTests := true, laidLooks := .later }
def FnExactCheckChainUptoCardSaid : Prop := Claim7.holds Tryd.pinned (.plain (OpenSpec.upto fnExactCheckChainSpec)) fnExactCheckChainUptoCard

/-- THE SECOND FORM's CARD OF 'laws.FnExactKillCert'. -/
def fnExactKillCertUptoCard : Claim7 := { stood := { row := fnExactKillCertUptoRow, standIns := [], harness := (true, "56ae0a3b7fe5db5007153f126b037c6dafd14d6dd8724ef69f62843c99840cc7"), looks := false }, kinds := [], alts := [], laidByText := true, laidKinds := [.data, .pinned], laidTests := true, laidLooks := .later }
def FnExactKillCertUptoCardSaid : Prop := Claim7.holds Tryd.pinned (.plain (OpenSpec.upto fnExactKillCertSpec)) fnExactKillCertUptoCard
end Rows
end Go.Proofs.YtjddcbkpabeioaaDoor
