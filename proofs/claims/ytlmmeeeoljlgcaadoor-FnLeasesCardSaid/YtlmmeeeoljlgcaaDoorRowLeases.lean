/- FnLeases answers true for every input, and each argument reads behind the call as before. No condition. -/
import Derived.Test.YtlmmeeeoljlgcaaDoorRowLeasesA
import Derived.Test.YtlmmeeeoljlgcaaDoorRows
import Derived.Test.YtlmmeeeoljlgcaaDoorCards
import Derived.Test.YtlmmeeeoljlgcaaDoorTie
import Derived.ProofKit
import Derived.LaidMore
import Derived.LaidLaws
import Derived.OpenShut
import Derived.Stop.Joined
import Derived.SevenTiedAt
import Derived.Lib.LaidTab
import Derived.Lay
import Derived.Test.YtlmmeeeoljlgcaaDoorLwLeases
import Derived.Test.YtlmmeeeoljlgcaaDoorOpenBytes
import Derived.Test.YtlmmeeeoljlgcaaDoorShape
set_option linter.unusedVariables false
set_option linter.unusedSimpArgs false
namespace Go.Proofs.YtlmmeeeoljlgcaaDoor.rowLeases
open Go.Proofs.YtlmmeeeoljlgcaaDoor
open Go.ChangeShapes Go.WideShapes Go.ChangeAt Go.RowKit Go.Joins Go.Deep
set_option linter.unusedVariables false

theorem proved : Rows.FnLeasesCardSaid :=
  Claim7.holds_tied_plain_at .later [] [.data, .pinned] true (true, "45cfe9b2c07f5a90b39eddf57f0660f96d3fcfa1dd699620a5824b15d40b6d45") false
    over (fun _ h => by cases h) (by kernel_rfl) (fun _ h => by cases h) fnLeases_row_tie rfl ⟨rfl, rfl⟩ (by kernel_rfl) rfl
    (fun f fn hf hfn => by
      obtain rfl : f = 4 := Option.some.inj ((show Tryd.prog.funcNamed Rows.fnLeasesRow.func = some 4 by kernel_rfl).symm.trans hf) |>.symm
      obtain rfl : fn = Tryd.f4 := (Option.some.inj (Tryd.func4.symm.trans hfn)).symm
      exact ⟨by kernel_rfl, fun j t ht => by
        rw [Tryd.params4] at ht
        have hm : t ∈ [37] := by simpa using Array.mem_of_getElem? ht
        have hall : ([37].all fun u => !Tryd.prog.wantsStandIn u) = true := by kernel_rfl
        exact (show Tryd.prog.wantsStandIn t = false by simpa using List.all_eq_true.1 hall t hm)⟩)
    (by kernel_rfl)
#print axioms proved
end Go.Proofs.YtlmmeeeoljlgcaaDoor.rowLeases
