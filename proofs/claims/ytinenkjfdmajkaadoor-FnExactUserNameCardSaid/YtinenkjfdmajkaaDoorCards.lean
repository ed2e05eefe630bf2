/-
  DERIVED. GIVEN WITH THE SEED: THE CARDS: each row of YtinenkjfdmajkaaDoorRows.lean that lists a variable, with what it lists TIED to the program's text (the seventh form; the later family's looks); each row that meets fmt, with fmt's text TOLD by the authors' own Lean function (tested against real Go, not proved from fmt's source: count such statements apart). THE CARD IS WHAT COUNTS. Prove the row's statement (the work); the ties are given (YtinenkjfdmajkaaDoorTie.lean); close each card by the builder's one call (the guide's Derived/Test/ToyasCard.lean, 'card_holds'). Laid BY PROGRAM, IN A SANDBOX (cutbox-door.mjs). By AI agents, Wed Nov 11 2026. No macro, syntax, notation, axiom, sorry.
-/
import Derived.Test.YtinenkjfdmajkaaDoorRows
import GoSem.ClaimSeven
namespace Go.Proofs.YtinenkjfdmajkaaDoor
namespace Rows

/-- THE TIED CARD OF 'laws.FnExactUserPass'. -/
def fnExactUserPassCard : Claim7 := { stood := { row := fnExactUserPassRow, standIns := [], harness := (true, "ccab33f4a49ab72c997fd6a79232e8da6026e5ae20f99339c27cde90adff0bfb"), looks := false }, kinds := [], alts := [], laidByText := true, laidKinds := [.data, .data, .data], laidTests := true, laidLooks := .later }
def FnExactUserPassCardSaid : Prop := Claim7.holds Tryd.pinned (.plain (OpenSpec.ofChange fnExactUserPassSpec)) fnExactUserPassCard

/-- THE TIED CARD OF 'laws.FnExactUserName'. -/
def fnExactUserNameCard : Claim7 := { stood := { row := fnExactUserNameRow, standIns := [], harness := (true, "ccab33f4a49ab72c997fd6a79232e8da6026e5ae20f99339c27cde90adff0bfb"), looks := false }, kinds := [], alts := [], laidByText := true, laidKinds := [.data, .data, .data], laidTests := true, laidLooks := .later }
def FnExactUserNameCardSaid : Prop := Claim7.holds Tryd.pinned (.plain (OpenSpec.ofChange fnExactUserNameSpec)) fnExactUserNameCard

/-- THE TIED CARD OF 'laws.FnExactCodeAt'. -/
def fnExactCodeAtCard : Claim7 := { stood := { row := fnExactCodeAtRow, standIns := [], harness := (true, "ccab33f4a49ab72c997fd6a79232e8da6026e5ae20f99339c27cde90adff0bfb"), looks := false }, kinds := [], alts := [], laidByText := true, laidKinds := [.data, .data, .data], laidTests := true, laidLooks := .later }
def FnExactCodeAtCardSaid : Prop := Claim7.holds Tryd.pinned (.plain (OpenSpec.ofChange fnExactCodeAtSpec)) fnExactCodeAtCard

/-- THE SECOND FORM's CARD OF 'laws.FnExactUserPass'. -/
def fnExactUserPassUptoCard : Claim7 := { stood := { row := fnExactUserPassUptoRow, standIns := [], harness := (true, "ccab33f4a49ab72c997fd6a79232e8da6026e5ae20f99339c27cde90adff0bfb"), looks := false }, kinds := [], alts := [], laidByText := true, laidKinds := [.data, .data, .data], laidTests := true, laidLooks := .later }
def FnExactUserPassUptoCardSaid : Prop := Claim7.holds Tryd.pinned (.plain (OpenSpec.upto fnExactUserPassSpec)) fnExactUserPassUptoCard

/-- THE SECOND FORM's CARD OF 'laws.FnExactUserName'. -/
def fnExactUserNameUptoCard : Claim7 := { stood := { row := fnExactUserNameUptoRow, standIns := [], harness := (true, "ccab33f4a49ab72c997fd6a79232e8da6026e5ae20f99339c27cde90adff0bfb"), looks := false }, kinds := [], alts := [], laidByText := true, laidKinds := [.data, .data, .data], laidTests := true, laidLooks := .later }
def FnExactUserNameUptoCardSaid : Prop := Claim7.holds Tryd.pinned (.plain (OpenSpec.upto fnExactUserNameSpec)) fnExactUserNameUptoCard

/-- THE SECOND FORM's CARD OF 'laws.FnExactCodeAt'. -/
def fnExactCodeAtUptoCard : Claim7 := { stood := { row := fnExactCodeAtUptoRow, standIns := [], harness := (true, "ccab33f4a49ab72c997fd6a79232e8da6026e5ae20f99339c27cde90adff0bfb"), looks := false }, kinds := [], alts := [], laidByText := true, laidKinds := [.data, .data, .data], laidTests := true, laidLooks := .later }
def FnExactCodeAtUptoCardSaid : Prop := Claim7.holds Tryd.pinned (.plain (OpenSpec.upto fnExactCodeAtSpec)) fnExactCodeAtUptoCard
end Rows
end Go.Proofs.YtinenkjfdmajkaaDoor
