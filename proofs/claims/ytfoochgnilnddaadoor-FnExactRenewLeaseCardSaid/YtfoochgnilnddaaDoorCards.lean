/-
  DERIVED. GIVEN WITH THE SEED: THE CARDS: each row of YtfoochgnilnddaaDoorRows.lean that lists a variable, with what it lists TIED to the program's text (the seventh form; the later family's looks); each row that meets fmt, with fmt's text TOLD by the authors' own Lean function (tested against real Go, not proved from fmt's source: count such statements apart). THE CARD IS WHAT COUNTS. Prove the row's statement (the work); the ties are given (YtfoochgnilnddaaDoorTie.lean); close each card by the builder's one call (the guide's Derived/Test/ToyasCard.lean, 'card_holds'). Laid BY PROGRAM, IN A SANDBOX (cutbox-door.mjs). By AI agents, Wed Nov 11 2026. No macro, syntax, notation, axiom, sorry.
-/
import Derived.Test.YtfoochgnilnddaaDoorRows
import GoSem.ClaimSeven
namespace Go.Proofs.YtfoochgnilnddaaDoor
namespace Rows

/-- THE TIED CARD OF 'laws.FnExactDropUnder'. -/
def fnExactDropUnderCard : Claim7 := { stood := { row := fnExactDropUnderRow, standIns := [], harness := (true, "62e229c7cb77b15dd4a7e3cfd99f069d9fcbf71fc3198a0b2a0e87e664698bd7"), looks := false }, kinds := [], alts := [], laidByText := true, laidKinds := [.data, .pinned], laidTests := true, laidLooks := .later }
def FnExactDropUnderCardSaid : Prop := Claim7.holds Tryd.pinned (.plain (OpenSpec.ofChange fnExactDropUnderSpec)) fnExactDropUnderCard

/-- THE TIED CARD OF 'laws.FnExactDropLease'. -/
def fnExactDropLeaseCard : Claim7 := { stood := { row := fnExactDropLeaseRow, standIns := [], harness := (true, "62e229c7cb77b15dd4a7e3cfd99f069d9fcbf71fc3198a0b2a0e87e664698bd7"), looks := false }, kinds := [], alts := [], laidByText := true, laidKinds := [.data, .pinned], laidTests := true, laidLooks := .later }
def FnExactDropLeaseCardSaid : Prop := Claim7.holds Tryd.pinned (.plain (OpenSpec.ofChange fnExactDropLeaseSpec)) fnExactDropLeaseCard

/-- THE TIED CARD OF 'laws.FnExactRenewLease'. -/
def fnExactRenewLeaseCard : Claim7 := { stood := { row := fnExactRenewLeaseRow, standIns := [], harness := (true, "62e229c7cb77b15dd4a7e3cfd99f069d9fcbf71fc3198a0b2a0e87e664698bd7"), looks := false }, kinds := [], alts := [], laidByText := true, laidKinds := [.data, .pinned], laidTests := true, laidLooks := .later }
def FnExactRenewLeaseCardSaid : Prop := Claim7.holds Tryd.pinned (.plain (OpenSpec.ofChange fnExactRenewLeaseSpec)) fnExactRenewLeaseCard

/-- THE TIED CARD OF 'laws.FnExactDropOf'. -/
def fnExactDropOfCard : Claim7 := { stood := { row := fnExactDropOfRow, standIns := [], harness := (true, "62e229c7cb77b15dd4a7e3cfd99f069d9fcbf71fc3198a0b2a0e87e664698bd7"), looks := false }, kinds := [], alts := [], laidByText := true, laidKinds := [.data, .pinned], laidTests := true, laidLooks := .later }
def FnExactDropOfCardSaid : Prop := Claim7.holds Tryd.pinned (.plain (OpenSpec.ofChange fnExactDropOfSpec)) fnExactDropOfCard

/-- THE TIED CARD OF 'laws.FnExactDropOver'. -/
def fnExactDropOverCard : Claim7 := { stood := { row := fnExactDropOverRow, standIns := [], harness := (true, "62e229c7cb77b15dd4a7e3cfd99f069d9fcbf71fc3198a0b2a0e87e664698bd7"), looks := false }, kinds := [], alts := [], laidByText := true, laidKinds := [.data, .pinned], laidTests := true, laidLooks := .later }
def FnExactDropOverCardSaid : Prop := Claim7.holds Tryd.pinned (.plain (OpenSpec.ofChange fnExactDropOverSpec)) fnExactDropOverCard

/-- THE TIED CARD OF 'laws.FnLeases'. -/
def fnLeasesCard : Claim7 := { stood := { row := fnLeasesRow, standIns := [], harness := (true, "62e229c7cb77b15dd4a7e3cfd99f069d9fcbf71fc3198a0b2a0e87e664698bd7"), looks := false }, kinds := [], alts := [], laidByText := true, laidKinds := [.data, .pinned], laidTests := true, laidLooks := .later }
def FnLeasesCardSaid : Prop := Claim7.holds Tryd.pinned (.plain (OpenSpec.ofChange fnLeasesSpec)) fnLeasesCard

/-- THE SECOND FORM's CARD OF 'laws.FnExactDropUnder'. -/
def fnExactDropUnderUptoCard : Claim7 := { stood := { row := fnExactDropUnderUptoRow, standIns := [], harness := (true, "62e229c7cb77b15dd4a7e3cfd99f069d9fcbf71fc3198a0b2a0e87e664698bd7"), looks := false }, kinds := [], alts := [], laidByText := true, laidKinds := [.data, .pinned], laidTests := true, laidLooks := .later }
def FnExactDropUnderUptoCardSaid : Prop := Claim7.holds Tryd.pinned (.plain (OpenSpec.upto fnExactDropUnderSpec)) fnExactDropUnderUptoCard

/-- THE SECOND FORM's CARD OF 'laws.FnExactDropLease'. -/
def fnExactDropLeaseUptoCard : Claim7 := { stood := { row := fnExactDropLeaseUptoRow, standIns := [], harness := (true, "62e229c7cb77b15dd4a7e3cfd99f069d9fcbf71fc3198a0b2a0e87e664698bd7"), looks := false }, kinds := [], alts := [], laidByText := true, laidKinds := [.data, .pinned], laidTests := true, laidLooks := .later }
def FnExactDropLeaseUptoCardSaid : Prop := Claim7.holds Tryd.pinned (.plain (OpenSpec.upto fnExactDropLeaseSpec)) fnExactDropLeaseUptoCard

/-- THE SECOND FORM's CARD OF 'laws.FnExactRenewLease'. -/
def fnExactRenewLeaseUptoCard : Claim7 := { stood := { row := fnExactRenewLeaseUptoRow, standIns := [], harness := (true, "62e229c7cb77b15dd4a7e3cfd99f069d9fcbf71fc3198a0b2a0e87e664698bd7"), looks := false }, kinds := [], alts := [], laidByText := true, laidKinds := [.data, .pinned], laidTests := true, laidLooks := .later }
def FnExactRenewLeaseUptoCardSaid : Prop := Claim7.holds Tryd.pinned (.plain (OpenSpec.upto fnExactRenewLeaseSpec)) fnExactRenewLeaseUptoCard

/-- THE SECOND FORM's CARD OF 'laws.FnExactDropOf'. -/
def fnExactDropOfUptoCard : Claim7 := { stood := { row := fnExactDropOfUptoRow, standIns := [], harness := (true, "62e229c7cb77b15dd4a7e3cfd99f069d9fcbf71fc3198a0b2a0e87e664698bd7"), looks := false }, kinds := [], alts := [], laidByText := true, laidKinds := [.data, .pinned], laidTests := true, laidLooks := .later }
def FnExactDropOfUptoCardSaid : Prop := Claim7.holds Tryd.pinned (.plain (OpenSpec.upto fnExactDropOfSpec)) fnExactDropOfUptoCard

/-- THE SECOND FORM's CARD OF 'laws.FnExactDropOver'. -/
def fnExactDropOverUptoCard : Claim7 := { stood := { row := fnExactDropOverUptoRow, standIns := [], harness := (true, "62e229c7cb77b15dd4a7e3cfd99f069d9fcbf71fc3198a0b2a0e87e664698bd7"), looks := false }, kinds := [], alts := [], laidByText := true, laidKinds := [.data, .pinned], laidTests := true, laidLooks := .later }
def FnExactDropOverUptoCardSaid : Prop := Claim7.holds Tryd.pinned (.plain (OpenSpec.upto fnExactDropOverSpec)) fnExactDropOverUptoCard

/-- THE SECOND FORM's CARD OF 'laws.FnLeases'. -/
def fnLeasesUptoCard : Claim7 := { stood := { row := fnLeasesUptoRow, standIns := [], harness := (true, "62e229c7cb77b15dd4a7e3cfd99f069d9fcbf71fc3198a0b2a0e87e664698bd7"), looks := false }, kinds := [], alts := [], laidByText := true, laidKinds := [.data, .pinned], laidTests := true, laidLooks := .later }
def FnLeasesUptoCardSaid : Prop := Claim7.holds Tryd.pinned (.plain (OpenSpec.upto fnLeasesSpec)) fnLeasesUptoCard
end Rows
end Go.Proofs.YtfoochgnilnddaaDoor
