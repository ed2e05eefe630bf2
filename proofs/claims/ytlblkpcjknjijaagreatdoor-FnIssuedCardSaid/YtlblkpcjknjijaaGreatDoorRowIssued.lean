/- FnIssued answers true for every input, and each argument reads behind the call as before. No condition. -/
import Derived.Test.YtlblkpcjknjijaaGreatDoorRowIssuedA
import Derived.Test.YtlblkpcjknjijaaGreatDoorRows
import Derived.Test.YtlblkpcjknjijaaGreatDoorCards
import Derived.Test.YtlblkpcjknjijaaGreatDoorTie
import Derived.ProofKit
import Derived.LaidMore
import Derived.LaidLaws
import Derived.OpenShut
import Derived.Stop.Joined
import Derived.SevenTiedAt
import Derived.Lib.LaidTab
import Derived.Lay
import Derived.Test.YtlblkpcjknjijaaGreatDoorLwIssued
import Derived.Test.YtlblkpcjknjijaaGreatDoorOpenBytes
import Derived.Test.YtlblkpcjknjijaaGreatDoorShape
set_option linter.unusedVariables false
set_option linter.unusedSimpArgs false
namespace Go.Proofs.YtlblkpcjknjijaaGreatDoor.rowIssued
open Go.Proofs.YtlblkpcjknjijaaGreatDoor
open Go.ChangeShapes Go.WideShapes Go.ChangeAt Go.RowKit Go.Joins Go.Deep
set_option linter.unusedVariables false

theorem proved : Rows.FnIssuedCardSaid :=
  Claim7.holds_tied_plain_at .later [] [.data, .pinned] true (true, "3873d019d0ff175d8ea08c91aa11b0d7b019e980f9668fd03d7459504c376d5d") false
    over (fun _ h => by cases h) (by kernel_rfl) (fun _ h => by cases h) fnIssued_row_tie rfl ⟨rfl, rfl⟩ (by kernel_rfl) rfl
    (fun f fn hf hfn => by
      obtain rfl : f = 3 := Option.some.inj ((show Tryz.prog.funcNamed Rows.fnIssuedRow.func = some 3 by kernel_rfl).symm.trans hf) |>.symm
      obtain rfl : fn = Tryz.f3 := (Option.some.inj (Tryz.func3.symm.trans hfn)).symm
      exact ⟨by kernel_rfl, fun j t ht => by
        rw [Tryz.params3] at ht
        have hm : t ∈ [22] := by simpa using Array.mem_of_getElem? ht
        have hall : ([22].all fun u => !Tryz.prog.wantsStandIn u) = true := by kernel_rfl
        exact (show Tryz.prog.wantsStandIn t = false by simpa using List.all_eq_true.1 hall t hm)⟩)
    (by kernel_rfl)
#print axioms proved
end Go.Proofs.YtlblkpcjknjijaaGreatDoor.rowIssued
