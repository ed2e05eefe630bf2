/- FnExactIssueCert answers true for every input, and each argument reads behind the call as before. No condition. -/
import Derived.Test.YtaaloiloklnbiaaGreatDoorRowIssueCertA
import Derived.Test.YtaaloiloklnbiaaGreatDoorRows
import Derived.Test.YtaaloiloklnbiaaGreatDoorCards
import Derived.Test.YtaaloiloklnbiaaGreatDoorTie
import Derived.ProofKit
import Derived.LaidMore
import Derived.LaidLaws
import Derived.OpenShut
import Derived.Stop.Joined
import Derived.SevenTiedAt
import Derived.Lib.LaidTab
import Derived.Lay
import Derived.Test.YtaaloiloklnbiaaGreatDoorLwIssueCert
import Derived.Test.YtaaloiloklnbiaaGreatDoorOpenAQ
import Derived.Test.YtaaloiloklnbiaaGreatDoorShape
namespace Go.Proofs.YtaaloiloklnbiaaGreatDoor.rowIssueCert
open Go.Proofs.YtaaloiloklnbiaaGreatDoor
open Go.ChangeShapes Go.WideShapes Go.ChangeAt Go.RowKit Go.Joins Go.Deep
set_option linter.unusedVariables false

theorem proved : Rows.FnExactIssueCertCardSaid :=
  Claim7.holds_tied_plain_at .later [] [.data, .pinned] true (true, "2ac978e888be07b6f05f1bfe181c5b25e87a9acb3236d54a2972538f197b1128") false
    over (fun _ h => by cases h) (by kernel_rfl) (fun _ h => by cases h) fnExactIssueCert_row_tie rfl ⟨rfl, rfl⟩ (by kernel_rfl) rfl
    (fun f fn hf hfn => by
      obtain rfl : f = 4 := Option.some.inj ((show Tryz.prog.funcNamed Rows.fnExactIssueCertRow.func = some 4 by kernel_rfl).symm.trans hf) |>.symm
      obtain rfl : fn = Tryz.f4 := (Option.some.inj (Tryz.func4.symm.trans hfn)).symm
      exact ⟨by kernel_rfl, fun j t ht => by
        rw [Tryz.params4] at ht
        have hm : t ∈ [42, 43, 3] := by simpa using Array.mem_of_getElem? ht
        have hall : ([42, 43, 3].all fun u => !Tryz.prog.wantsStandIn u) = true := by kernel_rfl
        exact (show Tryz.prog.wantsStandIn t = false by simpa using List.all_eq_true.1 hall t hm)⟩)
    (by kernel_rfl)
#print axioms proved
end Go.Proofs.YtaaloiloklnbiaaGreatDoor.rowIssueCert
