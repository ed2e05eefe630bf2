/- FnExactMakeUser answers true for every input, and each argument reads behind the call as before. No condition. -/
import Derived.Test.YtaaloiloklnbiaaDoorRowMakeUserA
import Derived.Test.YtaaloiloklnbiaaDoorRows
import Derived.Test.YtaaloiloklnbiaaDoorCards
import Derived.Test.YtaaloiloklnbiaaDoorTie
import Derived.ProofKit
import Derived.LaidMore
import Derived.LaidLaws
import Derived.OpenShut
import Derived.Stop.Joined
import Derived.SevenTiedAt
import Derived.Lib.LaidTab
import Derived.Test.YtaaloiloklnbiaaDoorLwMakeUser
import Derived.Test.YtaaloiloklnbiaaDoorOpenFar
import Derived.Test.YtaaloiloklnbiaaDoorOpenDev
namespace Go.Proofs.YtaaloiloklnbiaaDoor.rowMakeUser
open Go.Proofs.YtaaloiloklnbiaaDoor
open Go.ChangeShapes Go.WideShapes Go.ChangeAt Go.RowKit Go.Joins Go.Deep
set_option linter.unusedVariables false

theorem proved : Rows.FnExactMakeUserCardSaid :=
  Claim7.holds_tied_plain_at .later [] [.data, .data, .data] true (true, "e8e53d3879187223b2662f531a3907b4cd81960c028949bd828188ae1fa5b017") false
    over (fun _ h => by cases h) (by kernel_rfl) (fun _ h => by cases h) fnExactMakeUser_row_tie rfl ⟨rfl, rfl⟩ (by kernel_rfl) rfl
    (fun f fn hf hfn => by
      obtain rfl : f = 4 := Option.some.inj ((show Tryd.prog.funcNamed Rows.fnExactMakeUserRow.func = some 4 by kernel_rfl).symm.trans hf) |>.symm
      obtain rfl : fn = Tryd.f4 := (Option.some.inj (Tryd.func4.symm.trans hfn)).symm
      exact ⟨by kernel_rfl, fun j t ht => by
        rw [Tryd.params4] at ht
        have hm : t ∈ [44, 45, 3] := by simpa using Array.mem_of_getElem? ht
        have hall : ([44, 45, 3].all fun u => !Tryd.prog.wantsStandIn u) = true := by kernel_rfl
        exact (show Tryd.prog.wantsStandIn t = false by simpa using List.all_eq_true.1 hall t hm)⟩)
    (by kernel_rfl)
#print axioms proved
end Go.Proofs.YtaaloiloklnbiaaDoor.rowMakeUser
