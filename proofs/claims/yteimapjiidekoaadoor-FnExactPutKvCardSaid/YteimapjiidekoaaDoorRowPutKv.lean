/- FnExactPutKv answers true for every input, and each argument reads behind the call as before. No condition. -/
import Derived.Test.YteimapjiidekoaaDoorM5
import Derived.Test.YteimapjiidekoaaDoorRows
import Derived.Test.YteimapjiidekoaaDoorCards
import Derived.Test.YteimapjiidekoaaDoorTie
import Derived.ProofKit
import Derived.LaidMore
import Derived.LaidLaws
import Derived.OpenShut
import Derived.Stop.Joined
import Derived.SevenTiedAt
import Derived.Lib.LaidTab
import Derived.Lay
import Derived.Test.YteimapjiidekoaaDoorM6
import Derived.Test.YteimapjiidekoaaDoorShape
namespace Go.Proofs.YteimapjiidekoaaDoor.rowPutKv
open Go.Proofs.YteimapjiidekoaaDoor
open Go.ChangeShapes Go.WideShapes Go.ChangeAt Go.RowKit Go.Joins Go.Deep
set_option linter.unusedVariables false

theorem proved : Rows.FnExactPutKvCardSaid :=
  Claim7.holds_tied_plain_at .later [] [.data, .pinned] true (true, "e77aaf797fdd3b452bf63d72a09cffdd7cdd91842df69b70103008e35d16be7d") false
    over (fun _ h => by cases h) (by kernel_rfl) (fun _ h => by cases h) fnExactPutKv_row_tie rfl ⟨rfl, rfl⟩ (by kernel_rfl) rfl
    (fun f fn hf hfn => by
      obtain rfl : f = 8 := Option.some.inj ((show Tryd.prog.funcNamed Rows.fnExactPutKvRow.func = some 8 by kernel_rfl).symm.trans hf) |>.symm
      obtain rfl : fn = Tryd.f8 := (Option.some.inj (Tryd.func8.symm.trans hfn)).symm
      exact ⟨by kernel_rfl, fun j t ht => by
        rw [Tryd.params8] at ht
        have hm : t ∈ [24, 9, 39, 3, 3] := by simpa using Array.mem_of_getElem? ht
        have hall : ([24, 9, 39, 3, 3].all fun u => !Tryd.prog.wantsStandIn u) = true := by kernel_rfl
        exact (show Tryd.prog.wantsStandIn t = false by simpa using List.all_eq_true.1 hall t hm)⟩)
    (by kernel_rfl)
#print axioms proved
end Go.Proofs.YteimapjiidekoaaDoor.rowPutKv
