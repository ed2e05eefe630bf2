/- FnUsers answers true for every input, and each argument reads behind the call as before. No condition. -/
import Derived.Test.YtaaloiloklnbiaaDoorRowUsersA
import Derived.Test.YtaaloiloklnbiaaDoorRows
import Derived.Test.YtaaloiloklnbiaaDoorCards
import Derived.Test.YtaaloiloklnbiaaDoorTie
import Derived.ProofKit
import Derived.LaidMore
import Derived.LaidLaws
import Derived.OpenShut
import Derived.Stop.Joined
import Derived.SevenTiedAt
import Derived.Lib.LaidTab
import Derived.Test.YtaaloiloklnbiaaDoorLwUsers
import Derived.Test.YtaaloiloklnbiaaDoorOpenBytes
namespace Go.Proofs.YtaaloiloklnbiaaDoor.rowUsers
open Go.Proofs.YtaaloiloklnbiaaDoor
open Go.ChangeShapes Go.WideShapes Go.ChangeAt Go.RowKit Go.Joins Go.Deep
set_option linter.unusedVariables false

theorem proved : Rows.FnUsersCardSaid :=
  Claim7.holds_tied_plain_at .later [] [.data, .data, .data] true (true, "e8e53d3879187223b2662f531a3907b4cd81960c028949bd828188ae1fa5b017") false
    over (fun _ h => by cases h) (by kernel_rfl) (fun _ h => by cases h) fnUsers_row_tie rfl ⟨rfl, rfl⟩ (by kernel_rfl) rfl
    (fun f fn hf hfn => by
      obtain rfl : f = 3 := Option.some.inj ((show Tryd.prog.funcNamed Rows.fnUsersRow.func = some 3 by kernel_rfl).symm.trans hf) |>.symm
      obtain rfl : fn = Tryd.f3 := (Option.some.inj (Tryd.func3.symm.trans hfn)).symm
      exact ⟨by kernel_rfl, fun j t ht => by
        rw [Tryd.params3] at ht
        have hm : t ∈ [22] := by simpa using Array.mem_of_getElem? ht
        have hall : ([22].all fun u => !Tryd.prog.wantsStandIn u) = true := by kernel_rfl
        exact (show Tryd.prog.wantsStandIn t = false by simpa using List.all_eq_true.1 hall t hm)⟩)
    (by kernel_rfl)
#print axioms proved
end Go.Proofs.YtaaloiloklnbiaaDoor.rowUsers
