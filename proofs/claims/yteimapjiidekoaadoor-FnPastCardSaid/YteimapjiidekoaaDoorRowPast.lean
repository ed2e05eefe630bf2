/- FnPast answers true for every input, and each argument reads behind the call as before. No condition. -/
import Derived.Test.YteimapjiidekoaaDoorM5
import Derived.Test.YteimapjiidekoaaDoorRows
import Derived.Test.YteimapjiidekoaaDoorCards
import Derived.Test.YteimapjiidekoaaDoorTie
import Derived.ProofKit
import Derived.LaidMore
import Derived.LaidLaws
import Derived.OpenShut
import Derived.Stop.Joined
import Derived.SevenTiedAt
import Derived.Lib.LaidTab
import Derived.Lay
import Derived.Test.YteimapjiidekoaaDoorM6
namespace Go.Proofs.YteimapjiidekoaaDoor.rowPast
open Go.Proofs.YteimapjiidekoaaDoor
open Go.ChangeShapes Go.WideShapes Go.ChangeAt Go.RowKit Go.Joins Go.Deep
set_option linter.unusedVariables false

theorem proved : Rows.FnPastCardSaid :=
  Claim7.holds_tied_plain_at .later [] [.data, .pinned] true (true, "e77aaf797fdd3b452bf63d72a09cffdd7cdd91842df69b70103008e35d16be7d") false
    over (fun _ h => by cases h) (by kernel_rfl) (fun _ h => by cases h) fnPast_row_tie rfl ⟨rfl, rfl⟩ (by kernel_rfl) rfl
    (fun f fn hf hfn => by
      obtain rfl : f = 6 := Option.some.inj ((show Tryd.prog.funcNamed Rows.fnPastRow.func = some 6 by kernel_rfl).symm.trans hf) |>.symm
      obtain rfl : fn = Tryd.f6 := (Option.some.inj (Tryd.func6.symm.trans hfn)).symm
      exact ⟨by kernel_rfl, fun j t ht => by
        rw [Tryd.params6] at ht
        have hm : t ∈ [39] := by simpa using Array.mem_of_getElem? ht
        have hall : ([39].all fun u => !Tryd.prog.wantsStandIn u) = true := by kernel_rfl
        exact (show Tryd.prog.wantsStandIn t = false by simpa using List.all_eq_true.1 hall t hm)⟩)
    (by kernel_rfl)
#print axioms proved
end Go.Proofs.YteimapjiidekoaaDoor.rowPast
