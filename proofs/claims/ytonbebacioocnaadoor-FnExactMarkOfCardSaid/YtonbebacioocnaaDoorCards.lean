/-
  DERIVED. GIVEN WITH THE SEED: THE CARDS: each row of YtonbebacioocnaaDoorRows.lean that lists a variable, with what it lists TIED to the program's text (the seventh form; the later family's looks); each row that meets fmt, with fmt's text TOLD by the authors' own Lean function (tested against real Go, not proved from fmt's source: count such statements apart). THE CARD IS WHAT COUNTS. Prove the row's statement (the work); the ties are given (YtonbebacioocnaaDoorTie.lean); close each card by the builder's one call (the guide's Derived/Test/ToyasCard.lean, 'card_holds'). Laid BY PROGRAM, IN A SANDBOX (cutbox-door.mjs). By AI agents, Wed Nov 11 2026. No macro, syntax, notation, axiom, sorry.
-/
import Derived.Test.YtonbebacioocnaaDoorRows
import GoSem.ClaimSeven
namespace Go.Proofs.YtonbebacioocnaaDoor
namespace Rows

/-- THE TIED CARD OF 'laws.FnExactCertOk'. -/
def fnExactCertOkCard : Claim7 := { stood := { row := fnExactCertOkRow, standIns := [], harness := (true, "1825a307211da74027056d1684a3371a669044b0336690d474a5e3e9b0de4efd"), looks := false }, kinds := [], alts := [], laidByText := true, laidKinds := [.data, .pinned], laidTests := true, laidLooks := .later }
def FnExactCertOkCardSaid : Prop := Claim7.holds Tryd.pinned (.plain (OpenSpec.ofChange fnExactCertOkSpec)) fnExactCertOkCard

/-- THE TIED CARD OF 'laws.FnExactCodesFrom'. -/
def fnExactCodesFromCard : Claim7 := { stood := { row := fnExactCodesFromRow, standIns := [], harness := (true, "1825a307211da74027056d1684a3371a669044b0336690d474a5e3e9b0de4efd"), looks := false }, kinds := [], alts := [], laidByText := true, laidKinds := [.data, .data, .data], laidTests := true, laidLooks := .later }
def FnExactCodesFromCardSaid : Prop := Claim7.holds Tryd.pinned (.plain (OpenSpec.ofChange fnExactCodesFromSpec)) fnExactCodesFromCard

/-- THE TIED CARD OF 'laws.FnExactResync'. -/
def fnExactResyncCard : Claim7 := { stood := { row := fnExactResyncRow, standIns := [], harness := (true, "1825a307211da74027056d1684a3371a669044b0336690d474a5e3e9b0de4efd"), looks := false }, kinds := [], alts := [], laidByText := true, laidKinds := [.data, .data, .data], laidTests := true, laidLooks := .later }
def FnExactResyncCardSaid : Prop := Claim7.holds Tryd.pinned (.plain (OpenSpec.ofChange fnExactResyncSpec)) fnExactResyncCard

/-- THE TIED CARD OF 'laws.FnExactCheckCode'. -/
def fnExactCheckCodeCard : Claim7 := { stood := { row := fnExactCheckCodeRow, standIns := [], harness := (true, "1825a307211da74027056d1684a3371a669044b0336690d474a5e3e9b0de4efd"), looks := false }, kinds := [], alts := [], laidByText := true, laidKinds := [.data, .data, .data], laidTests := true, laidLooks := .later }
def FnExactCheckCodeCardSaid : Prop := Claim7.holds Tryd.pinned (.plain (OpenSpec.ofChange fnExactCheckCodeSpec)) fnExactCheckCodeCard

/-- THE TIED CARD OF 'laws.FnLocked'. -/
def fnLockedCard : Claim7 := { stood := { row := fnLockedRow, standIns := [], harness := (true, "1825a307211da74027056d1684a3371a669044b0336690d474a5e3e9b0de4efd"), looks := false }, kinds := [], alts := [], laidByText := true, laidKinds := [.data, .data, .data], laidTests := true, laidLooks := .later }
def FnLockedCardSaid : Prop := Claim7.holds Tryd.pinned (.plain (OpenSpec.ofChange fnLockedSpec)) fnLockedCard

/-- THE TIED CARD OF 'laws.FnCodes'. -/
def fnCodesCard : Claim7 := { stood := { row := fnCodesRow, standIns := [], harness := (true, "1825a307211da74027056d1684a3371a669044b0336690d474a5e3e9b0de4efd"), looks := false }, kinds := [], alts := [], laidByText := true, laidKinds := [.data, .data, .data], laidTests := true, laidLooks := .later }
def FnCodesCardSaid : Prop := Claim7.holds Tryd.pinned (.plain (OpenSpec.ofChange fnCodesSpec)) fnCodesCard

/-- THE TIED CARD OF 'laws.FnExactMarkOf'. -/
def fnExactMarkOfCard : Claim7 := { stood := { row := fnExactMarkOfRow, standIns := [], harness := (true, "1825a307211da74027056d1684a3371a669044b0336690d474a5e3e9b0de4efd"), looks := false }, kinds := [], alts := [], laidByText := true, laidKinds := [.data, .pinned], laidTests := true, laidLooks := .later }
def FnExactMarkOfCardSaid : Prop := Claim7.holds Tryd.pinned (.plain (OpenSpec.ofChange fnExactMarkOfSpec)) fnExactMarkOfCard

/-- THE TIED CARD OF 'laws.FnExactRackOk'. -/
def fnExactRackOkCard : Claim7 := { stood := { row := fnExactRackOkRow, standIns := [], harness := (true, "1825a307211da74027056d1684a3371a669044b0336690d474a5e3e9b0de4efd"), looks := false }, kinds := [], alts := [], laidByText := true, laidKinds := [.data, .pinned], laidTests := true, laidLooks := .later }
def FnExactRackOkCardSaid : Prop := Claim7.holds Tryd.pinned (.plain (OpenSpec.ofChange fnExactRackOkSpec)) fnExactRackOkCard

/-- THE TIED CARD OF 'laws.FnExactPlayCodes'. -/
def fnExactPlayCodesCard : Claim7 := { stood := { row := fnExactPlayCodesRow, standIns := [], harness := (true, "1825a307211da74027056d1684a3371a669044b0336690d474a5e3e9b0de4efd"), looks := false }, kinds := [], alts := [], laidByText := true, laidKinds := [.data, .data, .data], laidTests := true, laidLooks := .later }
def FnExactPlayCodesCardSaid : Prop := Claim7.holds Tryd.pinned (.plain (OpenSpec.ofChange fnExactPlayCodesSpec)) fnExactPlayCodesCard

/-- THE TIED CARD OF 'laws.FnUsers'. -/
def fnUsersCard : Claim7 := { stood := { row := fnUsersRow, standIns := [], harness := (true, "1825a307211da74027056d1684a3371a669044b0336690d474a5e3e9b0de4efd"), looks := false }, kinds := [], alts := [], laidByText := true, laidKinds := [.data, .data, .data], laidTests := true, laidLooks := .later }
def FnUsersCardSaid : Prop := Claim7.holds Tryd.pinned (.plain (OpenSpec.ofChange fnUsersSpec)) fnUsersCard

/-- THE TIED CARD OF 'laws.FnExactMakeUser'. -/
def fnExactMakeUserCard : Claim7 := { stood := { row := fnExactMakeUserRow, standIns := [], harness := (true, "1825a307211da74027056d1684a3371a669044b0336690d474a5e3e9b0de4efd"), looks := false }, kinds := [], alts := [], laidByText := true, laidKinds := [.data, .data, .data], laidTests := true, laidLooks := .later }
def FnExactMakeUserCardSaid : Prop := Claim7.holds Tryd.pinned (.plain (OpenSpec.ofChange fnExactMakeUserSpec)) fnExactMakeUserCard

/-- THE SECOND FORM's CARD OF 'laws.FnExactCertOk'. -/
def fnExactCertOkUptoCard : Claim7 := { stood := { row := fnExactCertOkUptoRow, standIns := [], harness := (true, "1825a307211da74027056d1684a3371a669044b0336690d474a5e3e9b0de4efd"), looks := false }, kinds := [], alts := [], laidByText := true, laidKinds := [.data, .pinned], laidTests := true, laidLooks := .later }
def FnExactCertOkUptoCardSaid : Prop := Claim7.holds Tryd.pinned (.plain (OpenSpec.upto fnExactCertOkSpec)) fnExactCertOkUptoCard

/-- THE SECOND FORM's CARD OF 'laws.FnExactCodesFrom'. -/
def fnExactCodesFromUptoCard : Claim7 := { stood := { row := fnExactCodesFromUptoRow, standIns := [], harness := (true, "1825a307211da74027056d1684a3371a669044b0336690d474a5e3e9b0de4efd"), looks := false }, kinds := [], alts := [], laidByText := true, laidKinds := [.data, .data, .data], laidTests := true, laidLooks := .later }
def FnExactCodesFromUptoCardSaid : Prop := Claim7.holds Tryd.pinned (.plain (OpenSpec.upto fnExactCodesFromSpec)) fnExactCodesFromUptoCard

/-- THE SECOND FORM's CARD OF 'laws.FnExactResync'. -/
def fnExactResyncUptoCard : Claim7 := { stood := { row := fnExactResyncUptoRow, standIns := [], harness := (true, "1825a307211da74027056d1684a3371a669044b0336690d474a5e3e9b0de4efd"), looks := false }, kinds := [], alts := [], laidByText := true, laidKinds := [.data, .data, .data], laidTests := true, laidLooks := .later }
def FnExactResyncUptoCardSaid : Prop := Claim7.holds Tryd.pinned (.plain (OpenSpec.upto fnExactResyncSpec)) fnExactResyncUptoCard

/-- THE SECOND FORM's CARD OF 'laws.FnExactCheckCode'. -/
def fnExactCheckCodeUptoCard : Claim7 := { stood := { row := fnExactCheckCodeUptoRow, standIns := [], harness := (true, "1825a307211da74027056d1684a3371a669044b0336690d474a5e3e9b0de4efd"), looks := false }, kinds := [], alts := [], laidByText := true, laidKinds := [.data, .data, .data], laidTests := true, laidLooks := .later }
def FnExactCheckCodeUptoCardSaid : Prop := Claim7.holds Tryd.pinned (.plain (OpenSpec.upto fnExactCheckCodeSpec)) fnExactCheckCodeUptoCard

/-- THE SECOND FORM's CARD OF 'laws.FnLocked'. -/
def fnLockedUptoCard : Claim7 := { stood := { row := fnLockedUptoRow, standIns := [], harness := (true, "1825a307211da74027056d1684a3371a669044b0336690d474a5e3e9b0de4efd"), looks := false }, kinds := [], alts := [], laidByText := true, laidKinds := [.data, .data, .data], laidTests := true, laidLooks := .later }
def FnLockedUptoCardSaid : Prop := Claim7.holds Tryd.pinned (.plain (OpenSpec.upto fnLockedSpec)) fnLockedUptoCard

/-- THE SECOND FORM's CARD OF 'laws.FnCodes'. -/
def fnCodesUptoCard : Claim7 := { stood := { row := fnCodesUptoRow, standIns := [], harness := (true, "1825a307211da74027056d1684a3371a669044b0336690d474a5e3e9b0de4efd"), looks := false }, kinds := [], alts := [], laidByText := true, laidKinds := [.data, .data, .data], laidTests := true, laidLooks := .later }
def FnCodesUptoCardSaid : Prop := Claim7.holds Tryd.pinned (.plain (OpenSpec.upto fnCodesSpec)) fnCodesUptoCard

/-- THE SECOND FORM's CARD OF 'laws.FnExactMarkOf'. -/
def fnExactMarkOfUptoCard : Claim7 := { stood := { row := fnExactMarkOfUptoRow, standIns := [], harness := (true, "1825a307211da74027056d1684a3371a669044b0336690d474a5e3e9b0de4efd"), looks := false }, kinds := [], alts := [], laidByText := true, laidKinds := [.data, .pinned], laidTests := true, laidLooks := .later }
def FnExactMarkOfUptoCardSaid : Prop := Claim7.holds Tryd.pinned (.plain (OpenSpec.upto fnExactMarkOfSpec)) fnExactMarkOfUptoCard

/-- THE SECOND FORM's CARD OF 'laws.FnExactRackOk'. -/
def fnExactRackOkUptoCard : Claim7 := { stood := { row := fnExactRackOkUptoRow, standIns := [], harness := (true, "1825a307211da74027056d1684a3371a669044b0336690d474a5e3e9b0de4efd"), looks := false }, kinds := [], alts := [], laidByText := true, laidKinds := [.data, .pinned], laidTests := true, laidLooks := .later }
def FnExactRackOkUptoCardSaid : Prop := Claim7.holds Tryd.pinned (.plain (OpenSpec.upto fnExactRackOkSpec)) fnExactRackOkUptoCard

/-- THE SECOND FORM's CARD OF 'laws.FnExactPlayCodes'. -/
def fnExactPlayCodesUptoCard : Claim7 := { stood := { row := fnExactPlayCodesUptoRow, standIns := [], harness := (true, "1825a307211da74027056d1684a3371a669044b0336690d474a5e3e9b0de4efd"), looks := false }, kinds := [], alts := [], laidByText := true, laidKinds := [.data, .data, .data], laidTests := true, laidLooks := .later }
def FnExactPlayCodesUptoCardSaid : Prop := Claim7.holds Tryd.pinned (.plain (OpenSpec.upto fnExactPlayCodesSpec)) fnExactPlayCodesUptoCard

/-- THE SECOND FORM's CARD OF 'laws.FnUsers'. -/
def fnUsersUptoCard : Claim7 := { stood := { row := fnUsersUptoRow, standIns := [], harness := (true, "1825a307211da74027056d1684a3371a669044b0336690d474a5e3e9b0de4efd"), looks := false }, kinds := [], alts := [], laidByText := true, laidKinds := [.data, .data, .data], laidTests := true, laidLooks := .later }
def FnUsersUptoCardSaid : Prop := Claim7.holds Tryd.pinned (.plain (OpenSpec.upto fnUsersSpec)) fnUsersUptoCard

/-- THE SECOND FORM's CARD OF 'laws.FnExactMakeUser'. -/
def fnExactMakeUserUptoCard : Claim7 := { stood := { row := fnExactMakeUserUptoRow, standIns := [], harness := (true, "1825a307211da74027056d1684a3371a669044b0336690d474a5e3e9b0de4efd"), looks := false }, kinds := [], alts := [], laidByText := true, laidKinds := [.data, .data, .data], laidTests := true, laidLooks := .later }
def FnExactMakeUserUptoCardSaid : Prop := Claim7.holds Tryd.pinned (.plain (OpenSpec.upto fnExactMakeUserSpec)) fnExactMakeUserUptoCard
end Rows
end Go.Proofs.YtonbebacioocnaaDoor
