/- FnListed answers true for every input, and each argument reads behind the call as before. No condition. -/
import Derived.Test.YtklmcbabpncfmaaDoorM2
import Derived.Test.YtklmcbabpncfmaaDoorRows
import Derived.Test.YtklmcbabpncfmaaDoorCards
import Derived.Test.YtklmcbabpncfmaaDoorTie
import Derived.ProofKit
import Derived.LaidMore
import Derived.LaidLaws
import Derived.OpenShut
import Derived.Stop.Joined
import Derived.SevenTiedAt
import Derived.Lib.LaidTab
import Derived.Lay
import Derived.Test.YtklmcbabpncfmaaDoorLwListed
namespace Go.Proofs.YtklmcbabpncfmaaDoor.rowListed
open Go.Proofs.YtklmcbabpncfmaaDoor
open Go.ChangeShapes Go.WideShapes Go.ChangeAt Go.RowKit Go.Joins Go.Deep
set_option linter.unusedVariables false

theorem proved : Rows.FnListedCardSaid :=
  Claim7.holds_tied_plain_at .later [] [.data, .pinned] true (true, "37a002cf4911532710272fe2f15cea41e63098ae4c23180819154153a5be1cff") false
    over (fun _ h => by cases h) (by kernel_rfl) (fun _ h => by cases h) fnListed_row_tie rfl ⟨rfl, rfl⟩ (by kernel_rfl) rfl
    (fun f fn hf hfn => by
      obtain rfl : f = 4 := Option.some.inj ((show Tryd.prog.funcNamed Rows.fnListedRow.func = some 4 by kernel_rfl).symm.trans hf) |>.symm
      obtain rfl : fn = Tryd.f4 := (Option.some.inj (Tryd.func4.symm.trans hfn)).symm
      exact ⟨by kernel_rfl, fun j t ht => by
        rw [Tryd.params4] at ht
        have hm : t ∈ [22] := by simpa using Array.mem_of_getElem? ht
        have hall : ([22].all fun u => !Tryd.prog.wantsStandIn u) = true := by kernel_rfl
        exact (show Tryd.prog.wantsStandIn t = false by simpa using List.all_eq_true.1 hall t hm)⟩)
    (by kernel_rfl)
#print axioms proved
end Go.Proofs.YtklmcbabpncfmaaDoor.rowListed
