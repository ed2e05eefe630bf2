/- FnExactRenewLease answers true for every input, and each argument reads behind the call as before. No condition. -/
import Derived.Test.YtfoochgnilnddaaDoorRowRenewLeaseA
import Derived.Test.YtfoochgnilnddaaDoorRows
import Derived.Test.YtfoochgnilnddaaDoorCards
import Derived.Test.YtfoochgnilnddaaDoorTie
import Derived.ProofKit
import Derived.LaidMore
import Derived.LaidLaws
import Derived.OpenShut
import Derived.Stop.Joined
import Derived.SevenTiedAt
import Derived.Lib.LaidTab
import Derived.Lay
import Derived.Test.YtfoochgnilnddaaDoorLwRenewLease
import Derived.Test.YtfoochgnilnddaaDoorOpenBook
import Derived.Test.YtfoochgnilnddaaDoorOpenDev
import Derived.Test.YtfoochgnilnddaaDoorShape
namespace Go.Proofs.YtfoochgnilnddaaDoor.rowRenewLease
open Go.Proofs.YtfoochgnilnddaaDoor
open Go.ChangeShapes Go.WideShapes Go.ChangeAt Go.RowKit Go.Joins Go.Deep
set_option linter.unusedVariables false

theorem proved : Rows.FnExactRenewLeaseCardSaid :=
  Claim7.holds_tied_plain_at .later [] [.data, .pinned] true (true, "62e229c7cb77b15dd4a7e3cfd99f069d9fcbf71fc3198a0b2a0e87e664698bd7") false
    over (fun _ h => by cases h) (by kernel_rfl) (fun _ h => by cases h) fnExactRenewLease_row_tie rfl ⟨rfl, rfl⟩ (by kernel_rfl) rfl
    (fun f fn hf hfn => by
      obtain rfl : f = 5 := Option.some.inj ((show Tryd.prog.funcNamed Rows.fnExactRenewLeaseRow.func = some 5 by kernel_rfl).symm.trans hf) |>.symm
      obtain rfl : fn = Tryd.f5 := (Option.some.inj (Tryd.func5.symm.trans hfn)).symm
      exact ⟨by kernel_rfl, fun j t ht => by
        rw [Tryd.params5] at ht
        have hm : t ∈ [24, 3, 3, 3] := by simpa using Array.mem_of_getElem? ht
        have hall : ([24, 3, 3, 3].all fun u => !Tryd.prog.wantsStandIn u) = true := by kernel_rfl
        exact (show Tryd.prog.wantsStandIn t = false by simpa using List.all_eq_true.1 hall t hm)⟩)
    (by kernel_rfl)
#print axioms proved
end Go.Proofs.YtfoochgnilnddaaDoor.rowRenewLease
