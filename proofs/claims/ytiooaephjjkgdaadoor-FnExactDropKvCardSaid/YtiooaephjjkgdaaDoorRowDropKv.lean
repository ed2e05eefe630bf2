/- FnExactDropKv answers true for every input, and each argument reads behind the call as before. No condition. -/
import Derived.Test.YtiooaephjjkgdaaDoorRowDropKvA
import Derived.Test.YtiooaephjjkgdaaDoorRows
import Derived.Test.YtiooaephjjkgdaaDoorCards
import Derived.Test.YtiooaephjjkgdaaDoorTie
import Derived.ProofKit
import Derived.LaidMore
import Derived.LaidLaws
import Derived.OpenShut
import Derived.Stop.Joined
import Derived.SevenTiedAt
import Derived.Lib.LaidTab
import Derived.Lay
import Derived.Test.YtiooaephjjkgdaaDoorLwDropKv
import Derived.Test.YtiooaephjjkgdaaDoorOpenStore
import Derived.Test.YtiooaephjjkgdaaDoorOpenDev
import Derived.Test.YtiooaephjjkgdaaDoorShape
namespace Go.Proofs.YtiooaephjjkgdaaDoor.rowDropKv
open Go.Proofs.YtiooaephjjkgdaaDoor
open Go.ChangeShapes Go.WideShapes Go.ChangeAt Go.RowKit Go.Joins Go.Deep
set_option linter.unusedVariables false

theorem proved : Rows.FnExactDropKvCardSaid :=
  Claim7.holds_tied_plain_at .later [] [.data, .pinned] true (true, "537fdc430e219b38e88887394dda1142b3a8b0ed6449f2509e97a26557ab823d") false
    over (fun _ h => by cases h) (by kernel_rfl) (fun _ h => by cases h) fnExactDropKv_row_tie rfl ⟨rfl, rfl⟩ (by kernel_rfl) rfl
    (fun f fn hf hfn => by
      obtain rfl : f = 6 := Option.some.inj ((show Tryd.prog.funcNamed Rows.fnExactDropKvRow.func = some 6 by kernel_rfl).symm.trans hf) |>.symm
      obtain rfl : fn = Tryd.f6 := (Option.some.inj (Tryd.func6.symm.trans hfn)).symm
      exact ⟨by kernel_rfl, fun j t ht => by
        rw [Tryd.params6] at ht
        have hm : t ∈ [35, 9] := by simpa using Array.mem_of_getElem? ht
        have hall : ([35, 9].all fun u => !Tryd.prog.wantsStandIn u) = true := by kernel_rfl
        exact (show Tryd.prog.wantsStandIn t = false by simpa using List.all_eq_true.1 hall t hm)⟩)
    (by kernel_rfl)
#print axioms proved
end Go.Proofs.YtiooaephjjkgdaaDoor.rowDropKv
