/-
  DERIVED. GIVEN WITH THE SEED: THE CARDS: each row of YtlmmeeeoljlgcaaDoorRows.lean that lists a variable, with what it lists TIED to the program's text (the seventh form; the later family's looks); each row that meets fmt, with fmt's text TOLD by the authors' own Lean function (tested against real Go, not proved from fmt's source: count such statements apart). THE CARD IS WHAT COUNTS. Prove the row's statement (the work); the ties are given (YtlmmeeeoljlgcaaDoorTie.lean); close each card by the builder's one call (the guide's Derived/Test/ToyasCard.lean, 'card_holds'). Laid BY PROGRAM, IN A SANDBOX (cutbox-door.mjs). By AI agents, Wed Nov 11 2026. No macro, syntax, notation, axiom, sorry.
-/
import Derived.Test.YtlmmeeeoljlgcaaDoorRows
import GoSem.ClaimSeven
namespace Go.Proofs.YtlmmeeeoljlgcaaDoor
namespace Rows

/-- THE TIED CARD OF 'laws.FnExactDropOver'. -/
def fnExactDropOverCard : Claim7 := { stood := { row := fnExactDropOverRow, standIns := [], harness := (true, "45cfe9b2c07f5a90b39eddf57f0660f96d3fcfa1dd699620a5824b15d40b6d45"), looks := false }, kinds := [], alts := [], laidByText := true, laidKinds := [.data, .pinned], laidTests := true, laidLooks := .later }
def FnExactDropOverCardSaid : Prop := Claim7.holds Tryd.pinned (.plain (OpenSpec.ofChange fnExactDropOverSpec)) fnExactDropOverCard

/-- THE TIED CARD OF 'laws.FnLeases'. -/
def fnLeasesCard : Claim7 := { stood := { row := fnLeasesRow, standIns := [], harness := (true, "45cfe9b2c07f5a90b39eddf57f0660f96d3fcfa1dd699620a5824b15d40b6d45"), looks := false }, kinds := [], alts := [], laidByText := true, laidKinds := [.data, .pinned], laidTests := true, laidLooks := .later }
def FnLeasesCardSaid : Prop := Claim7.holds Tryd.pinned (.plain (OpenSpec.ofChange fnLeasesSpec)) fnLeasesCard

/-- THE SECOND FORM's CARD OF 'laws.FnExactDropOver'. -/
def fnExactDropOverUptoCard : Claim7 := { stood := { row := fnExactDropOverUptoRow, standIns := [], harness := (true, "45cfe9b2c07f5a90b39eddf57f0660f96d3fcfa1dd699620a5824b15d40b6d45"), looks := false }, kinds := [], alts := [], laidByText := true, laidKinds := [.data, .pinned], laidTests := true, laidLooks := .later }
def FnExactDropOverUptoCardSaid : Prop := Claim7.holds Tryd.pinned (.plain (OpenSpec.upto fnExactDropOverSpec)) fnExactDropOverUptoCard

/-- THE SECOND FORM's CARD OF 'laws.FnLeases'. -/
def fnLeasesUptoCard : Claim7 := { stood := { row := fnLeasesUptoRow, standIns := [], harness := (true, "45cfe9b2c07f5a90b39eddf57f0660f96d3fcfa1dd699620a5824b15d40b6d45"), looks := false }, kinds := [], alts := [], laidByText := true, laidKinds := [.data, .pinned], laidTests := true, laidLooks := .later }
def FnLeasesUptoCardSaid : Prop := Claim7.holds Tryd.pinned (.plain (OpenSpec.upto fnLeasesSpec)) fnLeasesUptoCard
end Rows
end Go.Proofs.YtlmmeeeoljlgcaaDoor
